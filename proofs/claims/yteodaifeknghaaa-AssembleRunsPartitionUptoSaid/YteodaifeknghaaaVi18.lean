/- Calls: what a caller passes and gets. -/
import Derived.Test.YteodaifeknghaaaVi17
namespace Go.VI
variable {g : PG} {c : Ctx} {w : World} {fr fr' : Fr} {a : Act}

/-- A heap of VI's and memory. -/
structure HS (g : PG) (c : Ctx) (w : World) (h : Heap) : Prop where
  heap : HRel g.MC c h w
  wf : WF g.G c w
  hn : ∀ n, hget h n = none → c.gen n = 0 ∧ c.obj n = none

theorem FrRel.hs (h : FrRel g c w fr a) : HS g c w fr.heap := ⟨h.heap, h.wf, h.hn⟩

theorem FrRel.after (h : FrRel g c w fr a) {c' : Ctx} {w' : World} {hp : Heap} (hS : Step N0 c w c' w') (hh : HS g c' w' hp) : FrRel g c' w' { fr with heap := hp } a :=
  ⟨h.size, fun i => (h.tmps i).step hS h.wf, hh.heap, hh.wf, DefRel.step hS h.wf heap_lt h.defs, hh.hn⟩

/-- The names from level L on are forgotten, their blocks are not written again. -/
def Ctx.upTo (c : Ctx) (L : Nat) : Ctx where
  imm b := c.imm b ∨ ∃ n p, L ≤ n.1 ∧ c.obj n = some p ∧ p.blk = some b
  obj n := if n.1 < L then c.obj n else none
  gen n := if n.1 < L then c.gen n else 0

theorem IRel.upTo {L : Nat} {v : PV} {u : Value} (h : IRel c.imm w v u) : IRel (c.upTo L).imm w v u := h.mono (fun _ hb => .inl hb) fun _ _ => rfl

theorem VRel.upTo {L : Nat} {v : PV} {u : Value} (h : VRel c w v u) (hl : v.low L = true) : VRel (c.upTo L) w v u := by
  have lt : ∀ {n : Nm}, Nat.blt n.1 L = true → n.1 < L := fun h => by simpa using h
  induction h with
  | i v u hi => exact .i _ _ hi.upTo
  | agg cs us hl' h1 _ ih => exact .agg cs us hl' h1 fun i cv u hc hu => ih i cv u hc hu (lowL_get hl hc)
  | tuple cs us hl' _ ih => exact .tuple cs us hl' fun i cv u hc hu => ih i cv u hc hu (lowL_get hl hc)
  | fn f a b xs ys ha hb _ _ i1 i2 =>
    have hf' : PV.lowL L a = true ∧ PV.lowL L b = true := by simpa [PV.low] using hl
    exact .fn f a b xs ys ha hb (fun i cv u hc hu => i1 i cv u hc hu (lowL_get hf'.1 hc)) (fun i cv u hc hu => i2 i cv u hc hu (lowL_get hf'.2 hc))
  | slStale n gg off len u hg h1 => have := lt hl; exact .slStale n gg off len u (by simp only [Ctx.upTo, if_pos this]; exact hg) h1
  | slNil n gg p hg hp hb => have := lt hl; exact .slNil n gg p (by simp only [Ctx.upTo, if_pos this]; exact hg) (by simp only [Ctx.upTo, if_pos this]; exact hp) hb
  | sl n gg off len p b hg hp hb hll => have := lt hl; exact .sl n gg off len p b (by simp only [Ctx.upTo, if_pos this]; exact hg) (by simp only [Ctx.upTo, if_pos this]; exact hp) hb hll
  | slE n gg off p A hg hp hll => have := lt hl; exact .slE n gg off p A (by simp only [Ctx.upTo, if_pos this]; exact hg) (by simp only [Ctx.upTo, if_pos this]; exact hp) hll
  | ptrStale n gg i off u hg h1 => have := lt hl; exact .ptrStale n gg i off u (by simp only [Ctx.upTo, if_pos this]; exact hg) h1
  | ptr n gg i off p b hg hp hb => have := lt hl; exact .ptr n gg i off p b (by simp only [Ctx.upTo, if_pos this]; exact hg) (by simp only [Ctx.upTo, if_pos this]; exact hp) hb
  | mapStale n gg u hg h1 => have := lt hl; exact .mapStale n gg u (by simp only [Ctx.upTo, if_pos this]; exact hg) h1
  | map n gg p b hg hp hb => have := lt hl; exact .map n gg p b (by simp only [Ctx.upTo, if_pos this]; exact hg) (by simp only [Ctx.upTo, if_pos this]; exact hp) hb
  | yldStale n gg u hg h1 => have := lt hl; exact .yldStale n gg u (by simp only [Ctx.upTo, if_pos this]; exact hg) h1
  | yld n gg p b hg hp hb => have := lt hl; exact .yld n gg p b (by simp only [Ctx.upTo, if_pos this]; exact hg) (by simp only [Ctx.upTo, if_pos this]; exact hp) hb

theorem mapO_spec {α β : Type} {f : α → Option β} : ∀ {l : List α} {r : List β}, mapO f l = some r → r.length = l.length ∧ ∀ (i : Nat) y, r[i]? = some y → ∃ x, l[i]? = some x ∧ f x = some y
  | [], r, h => by simp only [mapO, Option.some.injEq] at h; subst h; exact ⟨rfl, fun i y hy => by simp at hy⟩
  | x :: l, r, h => by
    simp only [mapO] at h
    split at h
    · cases h
    rename_i a ha
    split at h <;> simp only [Option.some.injEq, reduceCtorEq] at h
    rename_i l' hl
    subst h
    obtain ⟨h1, h2⟩ := mapO_spec hl
    refine ⟨by simp [h1], fun i y hy => ?_⟩
    cases i with
    | zero => simp at hy; subst hy; exact ⟨x, rfl, ha⟩
    | succ i => exact h2 i y (by simpa using hy)

/-- What 'snap' says: 'imm' must hold all that may be read. -/
theorem snap_irel {L : Nat} {h : Heap} (hH : HRel g.MC c h w) (C : Ctx) (hC : ∀ {v u}, VRel c w v u → v.low L = true → VRel C w v u) (hI : ∀ b, c.imm b → C.imm b) (hB : ∀ n p b, c.obj n = some p → p.blk = some b → ¬ n.1 < L → C.imm b) :
    ∀ (d : Nat) (v v' : PV) (u : Value), snap h L d v = some v' → VRel c w v u → VRel C w v' u := by
  intro d
  induction d with
  | zero =>
    intro v v' u hs hv
    simp only [snap] at hs
    split at hs <;> simp only [Option.some.injEq, reduceCtorEq] at hs
    rename_i hl
    exact hs ▸ hC hv hl
  | succ d ih =>
    intro v v' u hs hv
    simp only [snap] at hs
    split at hs
    · rename_i hl
      simp only [Option.some.injEq] at hs
      exact hs ▸ hC hv hl
    rename_i hnl
    split at hs
    · rename_i n gg off len
      split at hs
      case h_2 => cases hs
      rename_i el g' osz hob
      split at hs <;> simp only [Option.some.injEq, reduceCtorEq] at hs
      rename_i hc
      obtain ⟨rfl, hle⟩ := hc
      subst hs
      have hnL : ¬ n.1 < L := by simpa [PV.low] using hnl
      obtain ⟨p, hp, hM, hx⟩ := sl_live (fr := { lvl := 0, tmps := [], heap := h, defers := [] }) hH hv hob
      have empty : ∀ b, IRel C.imm w (.vs .any []) (.slice (some b) 0 0) := fun b => .vsE .any b (by simp)
      refine .i _ _ ?_
      rcases hx with ⟨hb, rfl, rfl, rfl⟩ | ⟨b, hb, hcap, rfl⟩ | ⟨rfl, _, x, rfl⟩
      · rw [List.take_zero]; exact .vsNone _ (by simp)
      · have hlen : ((el.drop off).take len).length = len := by simp; omega
        have hyi : ∀ i, ((el.drop off).take len)[i]? = if i < len then el[off + i]? else none := by
          intro i
          rw [List.getElem?_take, List.getElem?_drop]
        obtain ⟨arr, E, ha, hsize, hcell⟩ := hM.row b hb
        have hpick : ∀ i j, ∃ u, i < len → j < p.sz → w.cell? ⟨b, p.base + off * p.sz + i * p.sz + j, none⟩ = some u ∧ u.oneCell' = true ∧ ∀ e cv, el[off + i]? = some e → e.cells[j]? = some cv → IRel C.imm w cv u := by
          intro i j
          by_cases hc : i < len ∧ j < p.sz
          · have hee : el[off + i]? = some (el[off + i]'(by omega)) := List.getElem?_eq_getElem (by omega)
            have hcl2 := hM.sz _ _ hee
            have hcv : (el[off + i]'(by omega)).cells[j]? = some ((el[off + i]'(by omega)).cells[j]'(by omega)) := List.getElem?_eq_getElem (by omega)
            obtain ⟨u, h5, h6, h7⟩ := hcell _ j _ _ hee hcv
            refine ⟨u, fun _ _ => ⟨?_, h6, fun e cv he hcv' => ?_⟩⟩
            · have : p.base + off * p.sz + i * p.sz + j = p.base + (off + i) * p.sz + j := by rw [Nat.add_mul]; omega
              rw [this]
              simp [World.cell?, ha, h5]
            · rw [hee] at he
              simp only [Option.some.injEq] at he
              subst he
              rw [hcv] at hcv'
              simp only [Option.some.injEq] at hcv'
              subst hcv'
              exact IRel.mono hI (fun _ _ => rfl) h7
          · exact ⟨undef, fun h1 h2 => absurd ⟨h1, h2⟩ hc⟩
        have := IRel.vs (imm := C.imm) (w := w) .any ((el.drop off).take len) b (p.base + off * p.sz) (p.cap - off) p.sz (fun i j => (hpick i j).choose) (by simp) (by rw [hlen]; omega) (by simp)
          (fun i e he => by
            rw [hyi] at he
            split at he
            · exact hM.sz _ e he
            · cases he)
          (fun i j hi hj => by
            rw [hlen] at hi
            obtain ⟨h1, h2, _⟩ := (hpick i j).choose_spec hi hj
            exact ⟨hB n p b hp hb hnL, h1, h2⟩)
          (fun i j e cv he hcv => by
            rw [hyi] at he
            split at he
            · rename_i hi
              have hj : j < p.sz := by have := hM.sz _ e he; have := getElem?_some_lt hcv; omega
              obtain ⟨_, _, h3⟩ := (hpick i j).choose_spec hi hj
              exact h3 e cv he hcv
            · cases he)
        rw [hlen] at this
        exact this
      · rw [List.take_zero]; exact empty x
    · rename_i n gg i off
      split at hs
      case h_2 => cases hs
      rename_i el g' cl osz hob
      split at hs
      case isFalse => cases hs
      rename_i hgg
      subst hgg
      split at hs
      case h_2 => cases hs
      rename_i e he
      split at hs
      case h_2 => cases hs
      rename_i cs hcs
      split at hs <;> simp only [Option.some.injEq, reduceCtorEq] at hs
      rename_i hlow
      subst hs
      have hnL : ¬ n.1 < L := by simpa [PV.low] using hnl
      obtain ⟨p, b, hp, hb, rfl, hM⟩ := ptr_live (fr := { lvl := 0, tmps := [], heap := h, defers := [] }) hH hv hob
      obtain ⟨hl, hm⟩ := mapO_spec hcs
      refine .i _ _ (ip_of_cellsAt (c := C) (fun j cv hj => ?_) fun j hj => hB n p b hp hb hnL)
      obtain ⟨x, hx, hsx⟩ := hm j cv hj
      have hx' : e.cells[off + j]? = some x := by simpa [List.getElem?_drop] using hx
      obtain ⟨u, h1, h2, h3⟩ := hM.cellsAt hb he (off + j) x hx'
      refine ⟨u, by rw [Nat.add_assoc]; exact h1, h2, ?_⟩
      exact (ih x cv u hsx h3.v).pure (lowL_get hlow hj)
    · rename_i cs
      simp only [Option.map_eq_some_iff] at hs
      obtain ⟨r, hr, rfl⟩ := hs
      obtain ⟨us, rfl, h1, h2, h3⟩ := hv.agg_inv
      obtain ⟨hl, hm⟩ := mapO_spec hr
      refine .agg r us (hl.trans h1) h2 fun i cv x hi hx => ?_
      obtain ⟨y, hy, hsy⟩ := hm i cv hi
      exact ih y cv x hsy (h3 i y x hy hx)
    · rename_i cs
      simp only [Option.map_eq_some_iff] at hs
      obtain ⟨r, hr, rfl⟩ := hs
      obtain ⟨us, rfl, h1, h3⟩ := hv.tuple_inv
      obtain ⟨hl, hm⟩ := mapO_spec hr
      refine .tuple r us (hl.trans h1) fun i cv x hi hx => ?_
      obtain ⟨y, hy, hsy⟩ := hm i cv hi
      exact ih y cv x hsy (h3 i y x hy hx)
    · rename_i f p q
      split at hs <;> simp only [Option.some.injEq, reduceCtorEq] at hs
      rename_i p' q' hp hq
      subst hs
      obtain ⟨xs, ys, rfl, ⟨h1, h2⟩, h3, h4⟩ := hv.fn_inv
      obtain ⟨hl1, hm1⟩ := mapO_spec hp
      obtain ⟨hl2, hm2⟩ := mapO_spec hq
      refine .fn f p' q' xs ys (hl1.trans h1) (hl2.trans h3) (fun i cv x hi hx => ?_) (fun i cv x hi hx => ?_)
      · obtain ⟨y, hy, hsy⟩ := hm1 i cv hi
        exact ih y cv x hsy (h2 i y x hy hx)
      · obtain ⟨y, hy, hsy⟩ := hm2 i cv hi
        exact ih y cv x hsy (h4 i y x hy hx)
    · cases hs

end Go.VI

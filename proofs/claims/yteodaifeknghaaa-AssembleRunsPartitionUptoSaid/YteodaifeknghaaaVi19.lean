/- A call is sound. -/
import Derived.Test.YteodaifeknghaaaVi18
namespace Go.VI
variable {g : PG} {c : Ctx} {w : World} {fr fr' : Fr} {a : Act} {callE : CallE} {yieldE : Nm → List PV → Heap → Option (PV × Heap)}

theorem hget_take {h : Heap} {L : Nat} (n : Nm) : hget (h.take L) n = if n.1 < L then hget h n else none := by
  unfold hget
  rw [List.getElem?_take]
  split <;> rfl

theorem hget_ge {h : Heap} {n : Nm} (hl : h.length ≤ n.1) : hget h n = none := by
  unfold hget
  rw [List.getElem?_eq_none hl]
  rfl

theorem heapLow_get {L : Nat} {m : Nm} {h : Heap} {ob : Ob} (hf : heapLow L h = true) (hg : hget h m = some ob) : obLow L (some ob) = true := by
  unfold hget at hg
  cases h1 : h[m.1]? with
  | none => simp [h1] at hg
  | some t =>
    simp only [h1, Option.bind_some] at hg
    cases h2 : t[m.2]? with
    | none => simp [h2] at hg
    | some x =>
      simp only [h2, Option.bind_some, id_eq] at hg
      have h3 := List.all_eq_true.1 hf t (List.mem_of_getElem? h1)
      have h4 := List.all_eq_true.1 h3 x (List.mem_of_getElem? h2)
      rw [hg] at h4
      exact h4

theorem low_getCells {L : Nat} {e cv : PV} {j : Nat} (h : e.low L = true) (hj : e.cells[j]? = some cv) : cv.low L = true := by
  cases e with
  | agg cs => exact lowL_get (cs := cs) h hj
  | _ => cases j <;> simp [PV.cells] at hj; exact hj ▸ h

theorem HS.upTo {L : Nat} {hp : Heap} (h : HS g c w hp) (hl : heapLow L (hp.take L) = true) : HS g (c.upTo L) w (hp.take L) := by
  refine ⟨fun n ob hg => ?_, ⟨fun n p b h1 h2 => ?_, fun n m p q b h1 h2 h3 h4 => ?_, fun n p b h1 h2 h3 => ?_, fun b hb => ?_, fun i v hi => (h.wf.glob i v hi).upTo⟩, fun n hg => ?_⟩
  · have hlow := heapLow_get hl hg
    rw [hget_take] at hg
    split at hg
    case isFalse => cases hg
    rename_i hnL
    have hr := h.heap n ob hg
    cases ob with
    | mem el gg cl osz =>
      obtain ⟨h1, h2⟩ := hr
      refine ⟨by simp only [Ctx.upTo, if_pos hnL]; exact h1, fun p hp => ?_⟩
      simp only [Ctx.upTo, if_pos hnL] at hp
      have hm := h2 p hp
      refine ⟨hm.osz, hm.nil, hm.cap, hm.sz, fun b hb => ?_⟩
      obtain ⟨arr, E, h3, h4, h5⟩ := hm.row b hb
      refine ⟨arr, E, h3, h4, fun i j e cv he hj => ?_⟩
      obtain ⟨u, h6, h7, h8⟩ := h5 i j e cv he hj
      refine ⟨u, h6, h7, ?_⟩
      cases cl
      · simp only [obLow, Bool.false_or] at hlow
        exact VRel.upTo h8 (low_getCells (lowL_get hlow he) hj)
      · exact IRel.upTo h8
    | map es clock gg =>
      obtain ⟨h1, h2⟩ := hr
      refine ⟨by simp only [Ctx.upTo, if_pos hnL]; exact h1, fun p hp => ?_⟩
      simp only [Ctx.upTo, if_pos hnL] at hp
      obtain ⟨b, arr, h3, h4, h5, h6⟩ := h2 p hp
      exact ⟨b, arr, h3, h4, h5, fun i e x he hx => ⟨(h6 i e x he hx).1.upTo, (h6 i e x he hx).2.upTo⟩⟩
    | loop tmps params assign body jump gg =>
      obtain ⟨h1, h2⟩ := hr
      refine ⟨by simp only [Ctx.upTo, if_pos hnL]; exact h1, fun p hp => ?_⟩
      simp only [Ctx.upTo, if_pos hnL] at hp
      obtain ⟨b, h3, l, h4, h5, h6, h7, h8⟩ := h2 p hp
      refine ⟨b, h3, l, h4, h5, h6, fun i => VRel.upTo (h7 i) ?_, h8⟩
      simp only [obLow] at hlow
      cases ht : tmps[i]? with
      | none => simp [List.getD, ht, PV.low]
      | some v => simpa [List.getD, ht] using lowL_get hlow ht
    | dead gg =>
      show (c.upTo L).gen n = gg
      simp only [Ctx.upTo, if_pos hnL]; exact hr
  · simp only [Ctx.upTo] at h1
    split at h1
    · exact h.wf.lt n p b h1 h2
    · cases h1
  · simp only [Ctx.upTo] at h1 h2
    split at h1
    case isFalse => cases h1
    split at h2
    case isFalse => cases h2
    exact h.wf.inj n m p q b h1 h2 h3 h4
  · simp only [Ctx.upTo] at h1
    split at h1
    case isFalse => cases h1
    rename_i hnL
    rcases h3 with h4 | ⟨m, q, h5, h6, h7⟩
    · exact h.wf.apart n p b h1 h2 h4
    · have := h.wf.inj n m p q b h1 h6 h2 h7
      subst this
      omega
  · rcases hb with h4 | ⟨m, q, h5, h6, h7⟩
    · exact h.wf.ilt b h4
    · exact h.wf.lt m q b h6 h7
  · rw [hget_take] at hg
    simp only [Ctx.upTo]
    split at hg
    · rename_i hnL
      rw [if_pos hnL, if_pos hnL]
      exact h.hn n hg
    · rename_i hnL
      rw [if_neg hnL, if_neg hnL]
      exact ⟨rfl, rfl⟩

theorem Step.upTo {L : Nat} {c0 : Ctx} {w0 : World} (h : Step N0 c0 w0 c w) (h0 : ∀ n : Nm, L ≤ n.1 → c0.gen n = 0 ∧ c0.obj n = none) : Step N0 c0 w0 (c.upTo L) w where
  size := h.size
  os := h.os
  out := h.out
  gen n := by
    simp only [Ctx.upTo]
    split
    · exact h.gen n
    · rename_i hn
      rw [(h0 n (by omega)).1]
      exact Nat.le_refl _
  obj n hn he := by
    simp only [Ctx.upTo] at he ⊢
    split at he
    · rename_i hL
      rw [if_pos hL]
      exact h.obj n hn he
    · rename_i hL
      rw [if_neg hL]
      exact (h0 n (by omega)).2.symm
  phan n hn := hn.elim
  imm b hb := .inl (h.imm b hb)
  immNew b hb := by
    rcases hb with h4 | ⟨m, q, h5, h6, h7⟩
    · exact h.immNew b h4
    · exact .inr (h.objNew m q b h6 h7)
  objNew n p b h1 h2 := by
    simp only [Ctx.upTo] at h1
    split at h1
    · exact h.objNew n p b h1 h2
    · cases h1
  frame := h.frame

/-- No names at all. -/
def Ctx.bare (imm : Nat → Prop) : Ctx := { imm := imm, obj := fun _ => none, gen := fun _ => 0 }

theorem VRel.ofBare {C : Ctx} {v : PV} {u : Value} (h : VRel C w v u) (ho : ∀ n, C.obj n = none) (hg : ∀ n, C.gen n = 0) : IRel C.imm w v u := by
  have noObj : ∀ {n p}, C.obj n = some p → False := fun {n p} h => by rw [ho n] at h; cases h
  have noGen : ∀ {n k}, k < C.gen n → False := fun {n k} h => by rw [hg n] at h; omega
  induction h with
  | i v u hi => exact hi
  | agg cs us hl h1 _ ih => exact .agg cs us hl h1 ih
  | tuple cs us hl _ ih => exact .tuple cs us hl ih
  | fn f a b xs ys ha hb _ _ i1 i2 => exact .fn f a b xs ys ha hb i1 i2
  | slStale n gg off len u h h1 => exact (noGen h).elim
  | slNil n gg p h hp => exact (noObj hp).elim
  | sl n gg off len p b h hp => exact (noObj hp).elim
  | slE n gg off p A h hp => exact (noObj hp).elim
  | ptrStale n gg i off u h h1 => exact (noGen h).elim
  | ptr n gg i off p b h hp => exact (noObj hp).elim
  | mapStale n gg u h h1 => exact (noGen h).elim
  | map n gg p b h hp => exact (noObj hp).elim
  | yldStale n gg u h h1 => exact (noGen h).elim
  | yld n gg p b h hp => exact (noObj hp).elim

mutual
theorem noref_irel {imm imm' : Nat → Prop} {w' : World} : ∀ (v : PV) (u : Value), v.noref = true → IRel imm w v u → IRel imm' w' v u
  | .agg cs, u, hn, h => by
    cases h with
    | agg cs us hl h1 h => exact .agg cs us hl h1 fun i c u hc hu => norefL_irel cs hn i c u hc (h i c u hc hu)
  | .tuple cs, u, hn, h => by
    cases h with
    | tuple cs us hl h => exact .tuple cs us hl fun i c u hc hu => norefL_irel cs hn i c u hc (h i c u hc hu)
  | .bool _, u, _, h => by cases h; exact .bool _
  | .int _ _, u, _, h => by cases h; exact .int _ _
  | .str _, u, _, h => by cases h; exact .str _
  | .nilp, u, _, h => by cases h; exact .nilp
  | .nilmap, u, _, h => by cases h; exact .nilmap
  | .nilfn, u, _, h => by cases h; exact .nilfn
  | .nili, u, _, h => by cases h; exact .nili
  | .junk, u, hn, _ => by simp [PV.noref] at hn
  | .vs _ _, u, hn, _ => by simp [PV.noref] at hn
  | .ip _, u, hn, _ => by simp [PV.noref] at hn
  | .fn _ _ _, u, hn, _ => by simp [PV.noref] at hn
  | .sl _ _ _ _, u, hn, _ => by simp [PV.noref] at hn
  | .ptr _ _ _ _, u, hn, _ => by simp [PV.noref] at hn
  | .map _ _, u, hn, _ => by simp [PV.noref] at hn
  | .yld _ _, u, hn, _ => by simp [PV.noref] at hn
theorem norefL_irel {imm imm' : Nat → Prop} {w' : World} : ∀ (cs : List PV), PV.norefL cs = true → ∀ (i : Nat) (c : PV) (u : Value), cs[i]? = some c → IRel imm w c u → IRel imm' w' c u
  | [], _, i, c, u, hc, _ => by simp at hc
  | v :: r, hn, 0, c, u, hc, h => by
    simp only [PV.norefL, Bool.and_eq_true] at hn
    simp only [List.getElem?_cons_zero, Option.some.injEq] at hc
    subst hc
    exact noref_irel v u hn.1 h
  | v :: r, hn, i + 1, c, u, hc, h => by
    simp only [PV.norefL, Bool.and_eq_true] at hn
    exact norefL_irel r hn.2 i c u (by simpa using hc) h
end

/-- What a call ends in. -/
def CallR (g : PG) (c : Ctx) (w : World) (h' : Heap) (v : PV) : Ending → World → Prop := fun e w' => ∃ u c', e = .returned u ∧ Step N0 c w c' w' ∧ HS g c' w' h' ∧ VRel c' w' v u

/-- Calls of one kind ('C') do what VI says. -/
def CallSoundP (C : FuncId → Array Value → World → (Ending → World → Prop) → Prop) (g : PG) (callE : CallE) : Prop := ∀ f args h v h', callE f args h = some (v, h') → ∀ c w vs, HS g c w h → LRel c w args vs → C f vs w (CallR g c w h' v)

def CallSound (g : PG) (callE : CallE) : Prop := CallSoundP (Calls g.P) g callE

theorem HS.ext {h : Heap} {c' : Ctx} {w' : World} (hs : HS g c w h) (he : Ext c w c' w') : HS g c' w' h :=
  ⟨he.hrel hs.wf hs.heap, he.wf hs.wf, fun n hn => by rw [he.gen, he.obj]; exact hs.hn n hn⟩

theorem HS.bare (imm : Nat → Prop) (hlt : ∀ b, imm b → b < w.heap.size) (hg : ∀ i v, g.G i = some v → IRel imm w v (.pointer (some ⟨i, 0, none⟩))) : HS g (Ctx.bare imm) w [] :=
  ⟨fun n ob h => by simp [hget] at h, ⟨(fun n p b h => by cases h), (fun n m p q b h => by cases h), (fun n p b h => by cases h), hlt, hg⟩, fun n _ => ⟨rfl, rfl⟩⟩

theorem callsMono {P : Program} {f : FuncId} {vs : Array Value} {R R' : Ending → World → Prop} (h : Calls P f vs w R) (hr : ∀ e w', R e w' → R' e w') : Calls P f vs w R' :=
  fun cs => let ⟨e, w', fr, r, s, x⟩ := h cs; ⟨e, w', fr, hr _ _ r, s, x⟩

theorem doCall_soundP {C : FuncId → Array Value → World → (Ending → World → Prop) → Prop} (mono : ∀ {f vs w} {R R' : Ending → World → Prop}, C f vs w R → (∀ e w', R e w' → R' e w') → C f vs w R') (hcE : CallSoundP C g callE) : CallSoundP C g (doCall g.E callE) := by
  intro f args h v h' hd c w vs hs hl
  unfold doCall at hd
  split at hd
  · cases hd
  rename_i pf hpf
  split at hd
  · split at hd
    · -- nothing of the caller's is passed
      rename_i hlow
      split at hd
      case h_2 => cases hd
      rename_i v1 h1 hc1
      split at hd <;> simp only [Option.some.injEq, reduceCtorEq, Prod.mk.injEq] at hd
      rename_i v2 h2 hpop
      obtain ⟨rfl, rfl⟩ := hd
      have hb : HS g (Ctx.bare c.imm) w [] := HS.bare c.imm hs.wf.ilt hs.wf.glob
      have hlb : LRel (Ctx.bare c.imm) w args vs := ⟨hl.1, fun i v u hv hu => .i _ _ ((hl.2 i v u hv hu).pure (lowL_get hlow hv))⟩
      refine mono (hcE f args [] v1 h1 hc1 _ w vs hb hlb) fun e w' ⟨u, c1, he, hS, hH, hV⟩ => ?_
      unfold pop at hpop
      split at hpop
      case h_2 => cases hpop
      rename_i v3 hsn
      split at hpop <;> simp only [Option.some.injEq, reduceCtorEq, Prod.mk.injEq] at hpop
      obtain ⟨rfl, _⟩ := hpop
      have hI : IRel (c1.upTo 0).imm w' v3 u :=
        (snap_irel hH.heap (c1.upTo 0) (fun h hl => h.upTo hl) (fun b hb => .inl hb) (fun n p b hp hb hn => .inr ⟨n, p, Nat.zero_le _, hp, hb⟩) 4 v1 v3 u hsn hV).ofBare (fun n => by simp [Ctx.upTo]) (fun n => by simp [Ctx.upTo])
      have hE : Ext c w { c with imm := (c1.upTo 0).imm } w' := by
        refine ⟨hS.size, hS.os, hS.out, rfl, rfl, fun b hb => .inl (hS.imm b hb), fun b hb => ?_, fun b hb => hS.frame b hb fun n p hp => by cases hp⟩
        rcases hb with hb | ⟨n, p, _, hp, hb⟩
        · rcases hS.immNew b hb with h3 | h3 | ⟨n, p, h3, _⟩
          · exact .inl h3
          · exact .inr ⟨h3, hH.wf.ilt b hb⟩
          · cases h3
        · rcases hS.objNew n p b hp hb with h3 | ⟨m, q, h3, _⟩
          · exact .inr ⟨h3, hH.wf.lt n p b hp hb⟩
          · cases h3
      exact ⟨u, _, he, hE.step, hs.ext hE, .i _ _ hI⟩
    · -- what is the caller's is read
      split at hd
      case h_1 => cases hd
      rename_i args' hargs
      split at hd
      case h_2 => cases hd
      rename_i v1 h1 hc1
      split at hd
      case h_2 => cases hd
      rename_i v2 h2 hpop
      split at hd <;> simp only [Option.some.injEq, reduceCtorEq, Prod.mk.injEq] at hd
      rename_i hnr
      obtain ⟨rfl, rfl⟩ := hd
      have hmono : ∀ {v u}, IRel c.imm w v u → IRel (fun b => b < w.heap.size) w v u := fun h => h.mono hs.wf.ilt fun _ _ => rfl
      have hb : HS g (Ctx.bare fun b => b < w.heap.size) w [] := HS.bare _ (fun _ h => h) fun i v hi => hmono (hs.wf.glob i v hi)
      obtain ⟨hm1, hm2⟩ := mapO_spec hargs
      have hlb : LRel (Ctx.bare fun b => b < w.heap.size) w args' vs := by
        refine ⟨hm1.trans hl.1, fun i v u hv hu => ?_⟩
        obtain ⟨x, hx, hsx⟩ := hm2 i v hv
        exact snap_irel hs.heap (Ctx.bare fun b => b < w.heap.size) (fun h hl => .i _ _ (hmono (h.pure hl))) hs.wf.ilt (fun n p b hp hb _ => hs.wf.lt n p b hp hb) 3 x v u hsx (hl.2 i x u hx hu)
      refine mono (hcE f args' [] v1 h1 hc1 _ w vs hb hlb) fun e w' ⟨u, c1, he, hS, hH, hV⟩ => ?_
      unfold pop at hpop
      split at hpop
      case h_2 => cases hpop
      rename_i v3 hsn
      split at hpop <;> simp only [Option.some.injEq, reduceCtorEq, Prod.mk.injEq] at hpop
      obtain ⟨rfl, _⟩ := hpop
      have hI : IRel (c1.upTo 0).imm w' v3 u :=
        (snap_irel hH.heap (c1.upTo 0) (fun h hl => h.upTo hl) (fun b hb => .inl hb) (fun n p b hp hb hn => .inr ⟨n, p, Nat.zero_le _, hp, hb⟩) 4 v1 v3 u hsn hV).ofBare (fun n => by simp [Ctx.upTo]) (fun n => by simp [Ctx.upTo])
      have hE : Ext c w c w' := ⟨hS.size, hS.os, hS.out, rfl, rfl, fun _ hb => hb, fun _ hb => .inl hb, fun b hb => hS.frame b hb fun n p hp => by cases hp⟩
      exact ⟨u, c, he, hE.step, hs.ext hE, .i _ _ (noref_irel v3 u hnr hI)⟩
  · -- a call that may write
    split at hd
    case h_2 => cases hd
    rename_i v1 h1 hc1
    split at hd
    · simp only [Option.some.injEq, Prod.mk.injEq] at hd
      obtain ⟨rfl, rfl⟩ := hd
      exact hcE f args h v1 h1 hc1 c w vs hs hl
    · refine mono (hcE f args h v1 h1 hc1 c w vs hs hl) fun e w' ⟨u, c1, he, hS, hH, hV⟩ => ?_
      unfold pop at hd
      split at hd
      case h_2 => cases hd
      rename_i v3 hsn
      split at hd <;> simp only [Option.some.injEq, reduceCtorEq, Prod.mk.injEq] at hd
      rename_i hlow
      obtain ⟨rfl, rfl⟩ := hd
      refine ⟨u, c1.upTo h.length, he, hS.upTo fun n hn => hs.hn n (hget_ge hn), hH.upTo hlow, ?_⟩
      exact snap_irel hH.heap (c1.upTo h.length) (fun h hl => h.upTo hl) (fun b hb => .inl hb) (fun n p b hp hb hn => .inr ⟨n, p, by omega, hp, hb⟩) 4 v1 v3 u hsn hV

theorem doCall_sound (hcE : CallSound g callE) : CallSound g (doCall g.E callE) := doCall_soundP callsMono hcE

end Go.VI

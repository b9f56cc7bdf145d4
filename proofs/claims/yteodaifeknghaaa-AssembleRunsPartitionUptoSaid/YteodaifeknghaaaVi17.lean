/- Every operation that makes no call does what VI says. -/
import Derived.Test.YteodaifeknghaaaVi16
namespace Go.VI
variable {g : PG} {c : Ctx} {w : World} {fr fr' : Fr} {a : Act} {o : Oper} {callE : CallE} {yieldE : Nm → List PV → Heap → Option (PV × Heap)}

theorem bslOK_spec {t : TypeId} {n : Nat} {qs : Array (Nat × Operand)} {sz : Option Nat} {z : List PV} {ps : List (Nat × PX)} (h : g.bslOK t n qs sz z ps = true) :
    ∃ E i zv, g.P.underlying t = some (.slice E) ∧ g.P.info? E = some i ∧ i.zero = some zv ∧ z.length = n ∧ z.all (fun e => constZ e zv.cells) = true ∧ zv.cells.size = i.size ∧ n * i.size ≤ 2 ^ 24 ∧ g.matchElems ps qs.toList = true ∧ ∀ s, sz = some s → s = i.size := by
  obtain ⟨E, i, h1, h2, h3⟩ := PG.elemOK_spec h
  obtain ⟨zv, h4, h5⟩ := zeroOK_spec h3
  simp only [Bool.and_eq_true] at h5
  obtain ⟨⟨⟨⟨⟨h6, h7⟩, h8⟩, h9⟩, h10⟩, h11⟩ := h5
  refine ⟨E, i, zv, h1, h2, h4, beq_nat h6, h7, beq_nat h8, Nat.le_of_ble_eq_true h9, h10, fun s hs => ?_⟩
  subst hs
  exact beq_nat h11

/-- Operations that only lay. -/
theorem lay_op (h : FrRel g c w fr a) {n : Nm} {k s : Nat} (hR : Room c n k) {p : POp} {pv : PV} {ob : Ob} (hm : g.matchOp p o.op = true) (hp : p.slot = some s) (hs : layE (evX g.E fr.tmps) n p k = some (pv, ob)) :
    LayOK g c w n k ob pv ((execOp a.eval o).run g.P w) := by
  generalize ho : o.op = op at hm
  cases p <;> simp only [POp.slot, reduceCtorEq, Option.some.injEq] at hp
  case vec s' cl sz =>
    simp only [PG.matchOp] at hm
    split at hm
    · exact lay_vec h hR (.inr ho) hs
    · exact lay_vec h hR (.inl ho) hs
    · cases hm
  case alloc s' z =>
    simp only [PG.matchOp] at hm
    split at hm
    · obtain ⟨i, h1, h2⟩ := PG.infoOK_spec hm
      obtain ⟨zv, h3, h4⟩ := zeroOK_spec h2
      exact lay_alloc h hR ho h1 h3 h4 hs
    · cases hm
  case box s' x =>
    simp only [PG.matchOp] at hm
    split at hm
    · exact lay_box h hR ho hm hs
    · cases hm
  case bslm s' cl sz z ps =>
    simp only [PG.matchOp] at hm
    split at hm
    · obtain ⟨E, i, zv, h1, h2, h3, h4, h5, h6, h7, h8, h9⟩ := bslOK_spec hm
      have := h9 sz rfl
      subst this
      exact lay_bslm h hR ho h1 h2 h3 h4 h5 h6 h7 h8 hs
    · cases hm
  case mkmap s' =>
    simp only [PG.matchOp] at hm
    split at hm
    · exact lay_mkmap h hR ho (.inl rfl) hs
    · obtain ⟨k', e, d, h1, h2, _⟩ := PG.mapOK_spec hm
      exact lay_mkmap h hR ho (.inr ⟨k', e, _, _, h1, rfl⟩) hs
    · cases hm
  case mkslice s' cl bytes z l n' =>
    simp only [PG.matchOp] at hm
    split at hm
    · simp only [Bool.and_eq_true] at hm
      obtain ⟨⟨h0, hl⟩, hn⟩ := hm
      obtain ⟨E, i, h1, h2, h3⟩ := PG.elemOK_spec h0
      obtain ⟨zv, h4, h5⟩ := zeroOK_spec h3
      simp only [Bool.and_eq_true] at h5
      exact lay_mkslice h hR ho h1 h2 h4 h5.1.1 (beq_nat h5.1.2) (beq_nat h5.2) hl hn hs
    · cases hm

theorem ok_op (h : FrRel g c w fr a) {p : POp} (hm : g.matchOp p o.op = true) (hn : p.calls = false) (hs : stepOp g.E callE yieldE o.dst p fr = some fr') : OpOK g c w fr fr' a o.dst ((execOp a.eval o).run g.P w) := by
  cases hsl : p.slot with
  | some s =>
    rw [lay_slot hsl] at hs
    exact OpOK.lay h hs fun k pv ob hR hf => lay_op h hR hm hsl hf
  | none =>
  generalize ho : o.op = op at hm
  cases p <;> simp only [POp.slot, reduceCtorEq] at hsl <;> simp only [POp.calls, reduceCtorEq] at hn <;> simp only [PG.matchOp] at hm
  case mov x =>
    split at hm
    · exact ok_mov h (.inl ho) hm hs
    · exact ok_mov h (.inr ho) hm hs
    · split at hm
      · simp only [Bool.and_eq_true] at hm
        obtain ⟨h1, h2⟩ := hm
        obtain ⟨t, h3, h4⟩ := tyOK_spec h2
        obtain ⟨n, E, i, h5, h6, h7⟩ := PG.arrOK_spec h4
        simp only [beq_iff_eq] at h7
        subst h7
        exact ok_lena h ho h3 (beq_nat h1) h5 hs
      · cases hm
    · cases hm
  case frz x =>
    split at hm
    · exact ok_frz h (.inr ho) hm hs
    · exact ok_frz h (.inl ho) hm hs
    · cases hm
  case pick c a b =>
    split at hm
    · simp only [Bool.and_eq_true] at hm
      exact ok_pick h ho hm.1.1 hm.1.2 hm.2 hs
    · cases hm
  case boxi x =>
    split at hm
    · exact ok_boxi h ho hm hs
    · cases hm
  case build z ps =>
    split at hm
    · rename_i t qs
      simp only [Bool.and_eq_true] at hm
      obtain ⟨i, h1, h2⟩ := PG.infoOK_spec hm.1
      obtain ⟨zv, h3, h4⟩ := zeroOK_spec h2
      have h5 := hm.2
      unfold PG.buildOK at h5
      split at h5
      · rename_i fs hfs
        simp only [Bool.and_eq_true] at h5
        exact ok_build h ho h1 h3 h4 hfs (.inl ⟨fs, rfl, h5.1, rfl⟩) h5.2 hs
      · rename_i n e hfs
        split at h5
        · rename_i ie hie
          exact ok_build h ho h1 h3 h4 hfs (.inr ⟨n, e, ie, rfl, hie, rfl⟩) h5 hs
        · cases h5
      · cases h5
    · cases hm
  case bsl z ps =>
    split at hm
    · obtain ⟨E, i, zv, h1, h2, h3, h4, h5, h6, h7, h8, _⟩ := bslOK_spec hm
      exact ok_bsl h ho h1 h2 h3 h4 h5 h6 h7 h8 hs
    · cases hm
  case load k x =>
    split at hm
    · simp only [Bool.and_eq_true] at hm
      exact ok_load h ho hm.1 hm.2 hs
    · cases hm
  case store k x y =>
    split at hm
    · simp only [Bool.and_eq_true] at hm
      obtain ⟨i, hi⟩ := isSome'_spec hm.1.1.2
      exact ok_store h ho hm.1.1.1 hi hm.1.2 hm.2 hs
    · cases hm
  case nilc x =>
    split at hm
    · exact ok_nilc h ho hm hs
    · cases hm
  case bini op x y =>
    split at hm
    · simp only [Bool.and_eq_true, decide_eq_true_eq] at hm
      obtain ⟨⟨rfl, h1⟩, h2⟩ := hm
      exact ok_bini h ho h1 h2 hs
    · cases hm
  case bins op x y =>
    split at hm
    · simp only [Bool.and_eq_true, decide_eq_true_eq] at hm
      obtain ⟨⟨rfl, h1⟩, h2⟩ := hm
      exact ok_bins h ho h1 h2 hs
    · cases hm
  case eq neg sh x y =>
    split at hm
    · simp only [Bool.and_eq_true, decide_eq_true_eq, Bool.not_eq_true'] at hm
      obtain ⟨⟨⟨⟨⟨rfl, h1⟩, h2⟩, h3⟩, h4⟩, h5⟩ := hm
      exact ok_eq h ho h1 h2 h3 (Nat.le_of_ble_eq_true h4) h5 hs
    · cases hm
  case neg x =>
    split at hm
    · exact ok_neg h ho hm hs
    · cases hm
  case compl x =>
    split at hm
    · exact ok_compl h ho hm hs
    · cases hm
  case notb x =>
    split at hm
    · exact ok_notb h ho hm hs
    · cases hm
  case conv k x =>
    split at hm
    · simp only [Bool.and_eq_true] at hm
      obtain ⟨⟨h1, h2⟩, h3⟩ := hm
      obtain ⟨d, hd⟩ := isSome'_spec h1
      split at h2
      · rename_i k' hk'
        simp only [decide_eq_true_eq] at h2
        subst h2
        exact ok_conv h ho hd hk' h3 hs
      · cases h2
    · cases hm
  case convs x =>
    split at hm
    · simp only [Bool.and_eq_true] at hm
      exact ok_convs h ho (isStr_spec hm.1.1) (isStr_spec hm.1.2) hm.2 hs
    · cases hm
  case mkfn f p q =>
    split at hm
    · simp only [Bool.and_eq_true, beq_iff_eq] at hm
      obtain ⟨⟨rfl, h1⟩, h2⟩ := hm
      exact ok_mkfn h ho h1 h2 hs
    · cases hm
  case sls x lo hi =>
    split at hm
    · simp only [Bool.and_eq_true] at hm
      exact ok_sls h ho (isStr_spec hm.1.1.1) hm.1.1.2 hm.1.2 hm.2 hs
    · cases hm
  case slc sz x lo hi mx =>
    split at hm
    · simp only [Bool.and_eq_true] at hm
      obtain ⟨⟨⟨⟨h1, h2⟩, h3⟩, h4⟩, h5⟩ := hm
      obtain ⟨E, i, h6, h7, h8⟩ := PG.elemOK_spec h1
      exact ok_slc h ho h6 h7 (beq_nat h8) h2 h3 h4 h5 hs
    · cases hm
  case faddr off x =>
    split at hm
    · simp only [Bool.and_eq_true] at hm
      obtain ⟨fs, f, h1, h2, h3⟩ := PG.fieldOK_spec hm.1
      simp only [Bool.and_eq_true] at h3
      obtain ⟨i, h4, h5⟩ := PG.infoOK_spec h3.2
      exact ok_faddr h ho h1 h2 h4 (fun e => by rw [e] at h5; simp at h5) (beq_nat h3.1) hm.2 hs
    · cases hm
  case fld off k x =>
    split at hm
    · simp only [Bool.and_eq_true] at hm
      obtain ⟨fs, f, h1, h2, h3⟩ := PG.fieldOK_spec hm.1
      simp only [Bool.and_eq_true] at h3
      exact ok_fld h ho h1 h2 h3.2 (beq_nat h3.1) hm.2 hs
    · cases hm
  case iaddr sz x i =>
    split at hm
    · simp only [Bool.and_eq_true] at hm
      obtain ⟨E, i, h1, h2, h3⟩ := PG.elemOK_spec hm.1.1
      exact ok_iaddr h ho h1 h2 (beq_nat h3) hm.1.2 hm.2 hs
    · cases hm
  case iaddra n sz x i =>
    split at hm
    · simp only [Bool.and_eq_true] at hm
      obtain ⟨m, E, i, h1, h2, h3⟩ := PG.arrOK_spec hm.1.1
      simp only [Bool.and_eq_true] at h3
      have := beq_nat h3.1
      subst this
      exact ok_iaddra h ho h1 h2 (beq_nat h3.2) hm.1.2 hm.2 hs
    · cases hm
  case idx n sz k x i =>
    split at hm
    · simp only [Bool.and_eq_true] at hm
      obtain ⟨m, E, i, h1, h2, h3⟩ := PG.arrOK_spec hm.1.1
      simp only [Bool.and_eq_true] at h3
      have := beq_nat h3.1.1
      subst this
      exact ok_idx h ho h1 h2 (beq_nat h3.1.2) h3.2 hm.1.2 hm.2 hs
    · cases hm
  case idxs x i =>
    split at hm
    · simp only [Bool.and_eq_true] at hm
      exact ok_idxs h ho (isStr_spec hm.1.1) hm.1.2 hm.2 hs
    · cases hm
  case lookup str z ok m k =>
    split at hm
    · simp only [Bool.and_eq_true, beq_iff_eq] at hm
      obtain ⟨⟨⟨rfl, h1⟩, h2⟩, h3⟩ := hm
      obtain ⟨kt, et, d, h4, h5, h6⟩ := PG.mapOK_spec h1
      simp only [Bool.and_eq_true] at h6
      obtain ⟨i, h7, h8⟩ := PG.infoOK_spec h6.2
      obtain ⟨zv, h9, h10⟩ := zeroOK_spec h8
      exact ok_lookup h ho h4 h5 h6.1 h7 h9 h10 h2 h3 hs
    · cases hm
  case mupd str m k x =>
    split at hm
    · simp only [Bool.and_eq_true] at hm
      obtain ⟨⟨⟨h1, h2⟩, h3⟩, h4⟩ := hm
      obtain ⟨kt, et, d, h5, h6, h7⟩ := PG.mapOK_spec h1
      exact ok_mupd h ho h5 h6 h7 h2 h3 h4 hs
    · cases hm
  case extract x i =>
    split at hm
    · simp only [Bool.and_eq_true] at hm
      have := beq_nat hm.1
      subst this
      exact ok_extract h ho hm.2 hs
    · cases hm
  case lens x =>
    split at hm
    · simp only [Bool.and_eq_true] at hm
      obtain ⟨y, rfl, h1⟩ := PG.arg1_spec hm.1
      obtain ⟨t, h2, h3⟩ := tyOK_spec hm.2
      exact ok_lens h ho h2 (isStr_spec h3) h1 hs
    · cases hm
  case lenl x =>
    split at hm
    · simp only [Bool.and_eq_true] at hm
      obtain ⟨y, rfl, h1⟩ := PG.arg1_spec hm.1
      obtain ⟨t, h2, h3⟩ := tyOK_spec hm.2
      obtain ⟨E, i, h4, _, _⟩ := PG.elemOK_spec h3
      exact ok_lenl h ho h2 h4 h1 hs
    · cases hm
  case lenm x =>
    split at hm
    · simp only [Bool.and_eq_true] at hm
      obtain ⟨y, rfl, h1⟩ := PG.arg1_spec hm.1
      obtain ⟨t, h2, h3⟩ := tyOK_spec hm.2
      obtain ⟨k, e, d, h4, _, _⟩ := PG.mapOK_spec h3
      exact ok_lenm h ho h2 h4 h1 hs
    · cases hm
  case capl x =>
    split at hm
    · simp only [Bool.and_eq_true] at hm
      obtain ⟨y, rfl, h1⟩ := PG.arg1_spec hm.1
      obtain ⟨t, h2, h3⟩ := tyOK_spec hm.2
      obtain ⟨E, i, h4, _, _⟩ := PG.elemOK_spec h3
      exact ok_capl h ho h2 h4 h1 hs
    · cases hm
  case append s cl sz bytes x y =>
    split at hm
    · rename_i args ty
      split at hm
      · rename_i x' y' t tx hargs hty
        simp only [Bool.and_eq_true] at hm
        obtain ⟨⟨⟨h1, h2⟩, h3⟩, h4⟩ := hm
        obtain ⟨E, i, h5, h6, h7⟩ := PG.elemOK_spec h1
        obtain ⟨E', i', h8, _, _⟩ := PG.elemOK_spec h2
        simp only [Bool.and_eq_true] at h7
        obtain ⟨zv, h9, h10⟩ := zeroOK_spec h7.2
        have e1 : args = #[x', y'] := Array.ext' (by simpa using hargs)
        have e2 : ty = #[t, tx] := Array.ext' (by simpa using hty)
        subst e1 e2
        have := beq_nat h7.1.1
        subst this
        exact ok_append h ho h5 h8 h6 h9 (beq_nat h10) (beq_nat h7.1.2) h3 h4 hs
      · cases hm
    · cases hm
  case mx x r =>
    split at hm
    · rename_i args ty
      match hargs : args.toList, hm with
      | x' :: r', hm =>
        simp only [PG.matchXs, Bool.and_eq_true] at hm
        exact ok_mx h (r' := r'.toArray) ho (by simpa using hargs) hm.1 (by simpa using hm.2) hs
    · cases hm
  case mn x r =>
    split at hm
    · rename_i args ty
      match hargs : args.toList, hm with
      | x' :: r', hm =>
        simp only [PG.matchXs, Bool.and_eq_true] at hm
        exact ok_mn h (r' := r'.toArray) ho (by simpa using hargs) hm.1 (by simpa using hm.2) hs
    · cases hm
  case eqnil k neg x =>
    split at hm
    · simp only [Bool.and_eq_true, decide_eq_true_eq] at hm
      obtain ⟨rfl, hm⟩ := hm
      split at hm
      · simp only [Bool.or_eq_true, Bool.and_eq_true] at hm
        rcases hm with hm | hm
        · exact ok_eqnil h (.inl ho) hm.1 hm.2 hs
        · exact ok_eqnil h (.inr ho) hm.1 hm.2 hs
      · simp only [Bool.and_eq_true] at hm
        exact ok_eqnil h (.inr ho) hm.1 hm.2 hs
      · simp only [Bool.and_eq_true] at hm
        exact ok_eqnil h (.inl ho) hm.1 hm.2 hs
      · cases hm
    · cases hm
  all_goals first | cases hm | skip

end Go.VI

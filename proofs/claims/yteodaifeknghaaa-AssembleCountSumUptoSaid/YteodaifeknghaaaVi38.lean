/- From an evaluation to the machine's call. -/
import Derived.Test.YteodaifeknghaaaVi34
import Derived.Test.YteodaifeknghaaaVi37
namespace Go.VI
section
variable {g : PG}

/-- A law's call, evaluated: the machine returns true and leaves all memory as it was. -/
theorem law_calls (hg : g.OK) {f : Nat} {args : List PV} (hd : doCall g.E (callR g.E) f args [] = some (.bool true, [])) (hG : ∀ i, g.GL i = false) {vs : Array Value} {W : World} (hl : args.length = vs.size)
    (h : ∀ (i : Nat) v u, args[i]? = some v → vs[i]? = some u → IRel (fun b => b < W.heap.size) W v u) : Calls g.P f vs W fun e W' => e = .returned (.bool true) ∧ Kept W W' := by
  obtain ⟨k, hk⟩ := (doCall_evt hd).ex
  have hs : HS g (Ctx.bare fun b => b < W.heap.size) W [] := HS.bare _ (fun _ h => h) fun i v hi => by simp [PG.G, hG] at hi
  refine callsMono (doCall_sound (callN_sound hg k) f args [] (.bool true) [] hk _ W vs hs ⟨hl, fun i v u hv hu => .i _ _ (h i v u hv hu)⟩) fun e W' hR => ?_
  obtain ⟨u, c', rfl, hS, _, hV⟩ := hR
  have := hV.bool_inv
  subst this
  exact ⟨rfl, Kept.of_step hS⟩

end

section
variable {H : Type} {enc : TypeId × Value → H} {P : Program} {W : World}

/-- An argument, as VI's value. -/
theorem arg_irel (hl : laidOutB P = true) (hm : mapsRowed P = true) (hz : ∀ t e, t < P.types.size → P.underlying t = some (.slice e) → 0 < P.cellsOf e) {t : TypeId} (ht : t < P.types.size) {v : Value} {d : DataW H} {ps : List MemPlace}
    (hd : DataW.Trod enc P W 0 (fun _ => true) true t v d ps) (hv : Value.okWide P W .any 0 t v ∨ ∃ b, Value.okWide P W .any b t v) : ∃ pv : PV, HasTy P t pv.cells ∧ (∃ dd, P.underlying t = some dd ∧ pv.isAgg = isA dd) ∧ IRel (fun b => b < W.heap.size) W pv v ∧ pbulk pv ≤ dbulk d := by
  obtain ⟨n, hn⟩ := hd
  obtain ⟨L, hL, hF, hB⟩ := irel_of_trod (imm := fun b => b < W.heap.size) (fun _ => rfl) (kids_rows hl hm) hz (fun _ h => h) n t v.cells.toList (d, ps) ht hn
  have hok : ∃ b, Value.okWide P W .any b t v := hv.elim (fun h => ⟨0, h⟩) fun h => h
  obtain ⟨b, hok⟩ := hok
  cases hu : P.underlying t with
  | none =>
    exfalso
    cases n with
    | zero => simp [DataW.trod] at hn
    | succ n => unfold DataW.trod at hn; rw [hu] at hn; simp at hn
  | some dd =>
    have aggCase : isA dd = true → (∃ cs, v = .agg cs) → ∃ pv : PV, HasTy P t pv.cells ∧ (∃ dd', some dd = some dd' ∧ pv.isAgg = isA dd') ∧ IRel (fun b => b < W.heap.size) W pv v ∧ pbulk pv ≤ dbulk d := by
      rintro hA ⟨cs, rfl⟩
      refine ⟨.agg L, hL, ⟨dd, rfl, by simp [PV.isAgg, hA]⟩, .agg L cs (by simpa [Value.cells] using hF.len) (fun i u hu' => ?_) (fun i c u hc hu' => ?_), by rw [hu] at hB; simpa [hA, pbulk] using hB⟩
      · have hlt := agetElem?_some_lt hu'
        have hlL : i < L.length := by rw [hF.len]; simpa [Value.cells] using hlt
        exact (hF.get i _ u (List.getElem?_eq_getElem hlL) (by simpa [Value.cells] using hu')).2
      · exact (hF.get i c u hc (by simpa [Value.cells] using hu')).1
    have oneCase : isA dd = false → v.oneCell' = true → ∃ pv : PV, HasTy P t pv.cells ∧ (∃ dd', some dd = some dd' ∧ pv.isAgg = isA dd') ∧ IRel (fun b => b < W.heap.size) W pv v ∧ pbulk pv ≤ dbulk d := by
      intro hA h1
      have hc : v.cells.toList = [v] := by cases v <;> first | rfl | simp [Value.oneCell'] at h1
      rw [hc] at hF
      have hone : ∃ pv, L = [pv] ∧ pv.isAgg = false := by
        cases hL with
        | struct _ fs Ls h => rw [hu] at h; simp only [Option.some.injEq] at h; subst h; simp [isA] at hA
        | array _ e n Ls h => rw [hu] at h; simp only [Option.some.injEq] at h; subst h; simp [isA] at hA
        | other _ d' h hA' => exact ⟨_, rfl, rfl⟩
        | _ => exact ⟨_, rfl, rfl⟩
      obtain ⟨pv, rfl, hp⟩ := hone
      have hpc : pv.cells = [pv] := by cases pv <;> first | rfl | simp [PV.isAgg] at hp
      exact ⟨pv, by rw [hpc]; exact hL, ⟨dd, rfl, by rw [hp, hA]⟩, (hF.get 0 pv v rfl rfl).1, by rw [hu] at hB; simpa [hA, pbulkL] using hB⟩
    cases hA : isA dd with
    | true =>
      refine aggCase hA ?_
      unfold Value.okWide at hok
      rw [hu] at hok
      cases dd <;> simp [isA] at hA
      · obtain ⟨cs, h, _⟩ := hok; exact ⟨cs, h⟩
      · obtain ⟨cs, h, _⟩ := hok; exact ⟨cs, h⟩
    | false =>
      refine oneCase hA ?_
      cases n with
      | zero => simp [DataW.trod] at hn
      | succ n =>
        obtain ⟨v0, hv0, h1⟩ := trod_cell hn (by rw [hu]; intro fs h; simp only [Option.some.injEq] at h; subst h; simp [isA] at hA) (by rw [hu]; intro n e h; simp only [Option.some.injEq] at h; subst h; simp [isA] at hA)
        cases v with
        | agg cs =>
          exfalso
          have hok2 := hok
          unfold Value.okWide at hok2
          rw [hu] at hok2
          cases dd <;> simp [isA] at hA <;> simp [Cell.okWide, Cell.ok, hu] at hok2
        | tuple cs =>
          exfalso
          have hok2 := hok
          unfold Value.okWide at hok2
          rw [hu] at hok2
          cases dd <;> simp [isA] at hA <;> simp [Cell.okWide, Cell.ok, hu] at hok2
        | _ => rfl

/- ## Values of a type -/
theorem HasTy.int_inv {t : TypeId} {k : IntKind} {L : List PV} (h : HasTy P t L) (hu : P.underlying t = some (.int k)) : ∃ n, L = [.int k n] ∧ (Lit.int k n).wf = true := by
  cases h with
  | int _ k' n h hw => rw [hu] at h; simp only [Option.some.injEq, TypeDesc.int.injEq] at h; subst h; exact ⟨n, rfl, hw⟩
  | bool _ _ h => rw [hu] at h; simp at h
  | str _ _ h => rw [hu] at h; simp at h
  | nilp _ _ h => rw [hu] at h; simp at h
  | zero _ _ h => rw [hu] at h; simp at h
  | ip _ _ _ h => rw [hu] at h; simp at h
  | nils _ _ h => rw [hu] at h; simp at h
  | sl _ _ _ h => rw [hu] at h; simp at h
  | struct _ _ _ h => rw [hu] at h; simp at h
  | array _ _ _ _ h => rw [hu] at h; simp at h
  | other _ d h hA => rw [hu] at h; simp only [Option.some.injEq] at h; subst h; simp [spoken] at hA

theorem HasTy.slice_inv {t e : TypeId} {L : List PV} (h : HasTy P t L) (hu : P.underlying t = some (.slice e)) : ∃ f l, L = [.vs f l] ∧ l.length ≤ maxLen ∧ (∀ v ∈ l, HasTy P e v.cells) ∧ ∀ v ∈ l, ∃ d, P.underlying e = some d ∧ v.isAgg = isA d := by
  cases h with
  | nils _ _ h => exact ⟨_, [], rfl, Nat.zero_le _, (fun v hv => by cases hv), fun v hv => by cases hv⟩
  | sl _ e' l h hl hL hA => rw [hu] at h; simp only [Option.some.injEq, TypeDesc.slice.injEq] at h; subst h; exact ⟨_, l, rfl, hl, hL, hA⟩
  | bool _ _ h => rw [hu] at h; simp at h
  | int _ _ _ h => rw [hu] at h; simp at h
  | str _ _ h => rw [hu] at h; simp at h
  | nilp _ _ h => rw [hu] at h; simp at h
  | zero _ _ h => rw [hu] at h; simp at h
  | ip _ _ _ h => rw [hu] at h; simp at h
  | struct _ _ _ h => rw [hu] at h; simp at h
  | array _ _ _ _ h => rw [hu] at h; simp at h
  | other _ d h hA => rw [hu] at h; simp only [Option.some.injEq] at h; subst h; simp [spoken] at hA

theorem HasTy.array_inv {t e : TypeId} {n : Nat} {L : List PV} (h : HasTy P t L) (hu : P.underlying t = some (.array n e)) : ∃ Ls : List (List PV), L = Ls.flatten ∧ Ls.length = n ∧ ∀ M ∈ Ls, HasTy P e M := by
  cases h with
  | array _ e' n' Ls h hl hf => rw [hu] at h; simp only [Option.some.injEq, TypeDesc.array.injEq] at h; obtain ⟨rfl, rfl⟩ := h; exact ⟨Ls, rfl, hl, hf⟩
  | bool _ _ h => rw [hu] at h; simp at h
  | int _ _ _ h => rw [hu] at h; simp at h
  | str _ _ h => rw [hu] at h; simp at h
  | nilp _ _ h => rw [hu] at h; simp at h
  | zero _ _ h => rw [hu] at h; simp at h
  | ip _ _ _ h => rw [hu] at h; simp at h
  | nils _ _ h => rw [hu] at h; simp at h
  | sl _ _ _ h => rw [hu] at h; simp at h
  | struct _ _ _ h => rw [hu] at h; simp at h
  | other _ d h hA => rw [hu] at h; simp only [Option.some.injEq] at h; subst h; simp [spoken] at hA

theorem HasTy.struct_inv {t : TypeId} {fs : Array Field} {L : List PV} (h : HasTy P t L) (hu : P.underlying t = some (.struct fs)) : ∃ Ls : List (List PV), L = Ls.flatten ∧ Ls.length = fs.size ∧ ∀ (i : Nat) f M, fs[i]? = some f → Ls[i]? = some M → HasTy P f.type M := by
  cases h with
  | struct _ fs' Ls h hl hf => rw [hu] at h; simp only [Option.some.injEq, TypeDesc.struct.injEq] at h; subst h; exact ⟨Ls, rfl, hl, hf⟩
  | bool _ _ h => rw [hu] at h; simp at h
  | int _ _ _ h => rw [hu] at h; simp at h
  | str _ _ h => rw [hu] at h; simp at h
  | nilp _ _ h => rw [hu] at h; simp at h
  | zero _ _ h => rw [hu] at h; simp at h
  | ip _ _ _ h => rw [hu] at h; simp at h
  | nils _ _ h => rw [hu] at h; simp at h
  | sl _ _ _ h => rw [hu] at h; simp at h
  | array _ _ _ _ h => rw [hu] at h; simp at h
  | other _ d h hA => rw [hu] at h; simp only [Option.some.injEq] at h; subst h; simp [spoken] at hA

theorem HasTy.str_inv {t : TypeId} {L : List PV} (h : HasTy P t L) (hu : P.underlying t = some .string) : ∃ s, L = [.str s] ∧ s.length ≤ maxLen := by
  cases h with
  | str _ s h hl => exact ⟨s, rfl, hl⟩
  | bool _ _ h => rw [hu] at h; simp at h
  | int _ _ _ h => rw [hu] at h; simp at h
  | nilp _ _ h => rw [hu] at h; simp at h
  | zero _ _ h => rw [hu] at h; simp at h
  | ip _ _ _ h => rw [hu] at h; simp at h
  | nils _ _ h => rw [hu] at h; simp at h
  | sl _ _ _ h => rw [hu] at h; simp at h
  | struct _ _ _ h => rw [hu] at h; simp at h
  | array _ _ _ _ h => rw [hu] at h; simp at h
  | other _ d h hA => rw [hu] at h; simp only [Option.some.injEq] at h; subst h; simp [spoken] at hA

theorem HasTy.bool_inv {t : TypeId} {L : List PV} (h : HasTy P t L) (hu : P.underlying t = some .bool) : ∃ b, L = [.bool b] := by
  cases h with
  | bool _ b h => exact ⟨b, rfl⟩
  | int _ _ _ h => rw [hu] at h; simp at h
  | str _ _ h => rw [hu] at h; simp at h
  | nilp _ _ h => rw [hu] at h; simp at h
  | zero _ _ h => rw [hu] at h; simp at h
  | ip _ _ _ h => rw [hu] at h; simp at h
  | nils _ _ h => rw [hu] at h; simp at h
  | sl _ _ _ h => rw [hu] at h; simp at h
  | struct _ _ _ h => rw [hu] at h; simp at h
  | array _ _ _ _ h => rw [hu] at h; simp at h
  | other _ d h hA => rw [hu] at h; simp only [Option.some.injEq] at h; subst h; simp [spoken] at hA

/-- One cell that is no struct's or array's. -/
theorem one_cell {pv v : PV} (hc : pv.cells = [v]) (hA : pv.isAgg = false) : pv = v := by
  cases pv <;> first | (simp [PV.isAgg] at hA; done) | (simp [PV.cells] at hc; exact hc)

theorem agg_of {pv : PV} (h : pv.isAgg = true) : pv = .agg pv.cells := by
  cases pv <;> first | rfl | simp [PV.isAgg] at h

/-- An argument of an int type. -/
theorem int_arg {t : TypeId} {k : IntKind} (hu : P.underlying t = some (.int k)) {pv : PV} (h : HasTy P t pv.cells) (hA : ∃ dd, P.underlying t = some dd ∧ pv.isAgg = isA dd) : ∃ n, pv = .int k n ∧ (Lit.int k n).wf = true := by
  obtain ⟨n, hn, hw⟩ := h.int_inv hu
  obtain ⟨d, hd, hA⟩ := hA
  rw [hu] at hd
  simp only [Option.some.injEq] at hd
  subst hd
  exact ⟨n, one_cell hn (by rw [hA]; rfl), hw⟩

/-- An argument of a slice type. -/
theorem slice_arg {t e : TypeId} (hu : P.underlying t = some (.slice e)) {pv : PV} (h : HasTy P t pv.cells) (hA : ∃ dd, P.underlying t = some dd ∧ pv.isAgg = isA dd) : ∃ f l, pv = .vs f l ∧ l.length ≤ maxLen ∧ (∀ v ∈ l, HasTy P e v.cells) ∧ ∀ v ∈ l, ∃ d, P.underlying e = some d ∧ v.isAgg = isA d := by
  obtain ⟨f, l, hn, h1, h2, h3⟩ := h.slice_inv hu
  obtain ⟨d, hd, hA⟩ := hA
  rw [hu] at hd
  simp only [Option.some.injEq] at hd
  subst hd
  exact ⟨f, l, one_cell hn (by rw [hA]; rfl), h1, h2, h3⟩

theorem ints_bulk {k : IntKind} : ∀ (zs : List Int), pbulkL (zs.map (PV.int k)) = zs.length
  | [] => rfl
  | z :: zs => by simp [pbulkL, pbulk, ints_bulk zs]; omega

/-- A list of values of an int type. -/
theorem ints_of {e : TypeId} {k : IntKind} (hu : P.underlying e = some (.int k)) : ∀ {l : List PV}, (∀ v ∈ l, HasTy P e v.cells) → (∀ v ∈ l, ∃ d, P.underlying e = some d ∧ v.isAgg = isA d) → ∃ zs : List Int, l = zs.map (PV.int k) ∧ ∀ z ∈ zs, (Lit.int k z).wf = true
  | [], _, _ => ⟨[], rfl, fun z hz => by cases hz⟩
  | v :: l, h1, h2 => by
    obtain ⟨zs, rfl, hz⟩ := ints_of hu (fun x hx => h1 x (List.mem_cons_of_mem _ hx)) (fun x hx => h2 x (List.mem_cons_of_mem _ hx))
    obtain ⟨n, hn, hw⟩ := (h1 v (List.mem_cons_self ..)).int_inv hu
    obtain ⟨d, hd, hA⟩ := h2 v (List.mem_cons_self ..)
    rw [hu] at hd
    simp only [Option.some.injEq] at hd
    subst hd
    refine ⟨n :: zs, by rw [one_cell hn (by rw [hA]; rfl)]; rfl, fun z hz' => ?_⟩
    rcases List.mem_cons.1 hz' with rfl | hz'
    · exact hw
    · exact hz z hz'

end
end Go.VI

/- What is asked behind a call that returns true and writes nothing that was there. -/
import Derived.Test.YteodaifeknghaaaVi33
namespace Go.VI
section
variable {H : Type} {enc : TypeId × Value → H} {P : Program} {W W' : World} {spare : Nat → Bool} {held : Bool}

/-- Nothing that was there is another. -/
structure Kept (W W' : World) : Prop where
  size : W.heap.size ≤ W'.heap.size
  os : W'.os = W.os
  out : W'.output = W.output
  same : ∀ b, b < W.heap.size → W'.heap[b]? = W.heap[b]?

theorem Kept.of_step {imm : Nat → Prop} {c' : Ctx} (h : Step N0 (Ctx.bare imm) W c' W') : Kept W W' :=
  ⟨h.size, h.os, h.out, fun b hb => h.frame b hb fun n p hp => by cases hp⟩

theorem Kept.but (h : Kept W W') (S : MemPlace → Prop) : W.keptBut W' S := by
  refine ⟨h.os, h.out, fun i hi => ?_⟩
  rw [h.same i hi]
  cases hw : W.heap[i]? with
  | none => rfl
  | some o =>
    cases o with
    | cells c t fr => exact ⟨rfl, rfl, rfl, fun _ _ => rfl⟩
    | map es clock => exact .inr ⟨rfl, rfl⟩
    | _ => rfl

theorem Kept.at (h : Kept W W') {p : MemPlace} (hp : p.block < W.heap.size) : W.sameAt W' p := by
  cases p with
  | cell b off => exact cell?_of_heap (h.same b hp)
  | map b => exact h.same b hp

theorem TrodAll.carry {base : Nat} {ts : List TypeId} : ∀ {vs : List Value} {ds : List (DataW H)} {ps : List MemPlace}, DataW.TrodAll enc P W base spare held ts vs ds ps → (∀ p ∈ ps, W.sameAt W' p) → DataW.TrodAll enc P W' base spare held ts vs ds ps := by
  induction ts with
  | nil =>
    intro vs ds ps h _
    obtain ⟨rfl, rfl, rfl⟩ := ChangeShapes.trodAll_nil h
    exact rfl
  | cons t ts ih =>
    intro vs ds ps h hs
    obtain ⟨v, vs, d, ds, p, q, rfl, rfl, rfl, ⟨n, h1⟩, h2⟩ := ChangeShapes.trodAll_cons h
    exact ⟨p, q, ⟨n, DataW.trod_carry n _ _ _ h1 fun x hx => hs x (List.mem_append_left _ hx)⟩, ih h2 fun x hx => hs x (List.mem_append_right _ hx), rfl⟩

theorem trod_true {base : Nat} {tb : TypeId} (hub : P.underlying tb = some .bool) : DataW.TrodAll enc P W' base spare held [tb] [.bool true] [.lit (.bool true)] [] :=
  ⟨[], [], ⟨1, by simp [DataW.trod, hub, Value.cells]⟩, rfl, rfl⟩

theorem post_true {f : Func} {s : ChangeSpec} {apart fresh handsOn again : Bool} {args : Array Value} {ds gs : List (DataW H)} {before : List MemPlace} {tb : TypeId} (hl : laidOutB P = true) (hm : mapsRowed P = true)
    (hz : ∀ t e, t < P.types.size → P.underlying t = some (.slice e) → 0 < P.cellsOf e) (hT : ∀ t ∈ f.params.toList, t < P.types.size) (hv : s.vars = []) (hW : DataW.Whole enc P f.params.toList s.vars apart W args.toList ds gs before) (hk : Kept W W')
    (hres : (s.fn H (ds ++ gs)).results = [.lit (.bool true)]) (hargs : (s.fn H (ds ++ gs)).args = ds) (hvars : (s.fn H (ds ++ gs)).vars = []) (htb : f.resultTypes = #[tb]) (hub : P.underlying tb = some .bool) :
    s.post enc P f apart fresh handsOn again W args (.bool true) W' ∧ W.keptBut W' (fun _ => False) := by
  refine ⟨?_, hk.but _⟩
  have hlt := hW.lt
  have hW' := hW
  obtain ⟨p, q, hA, hV, rfl, hfz, hnd⟩ := hW
  rw [hv] at hV
  have hq : gs = [] ∧ q = [] := by
    cases gs with
    | nil => exact ⟨rfl, hV⟩
    | cons _ _ => exact hV.elim
  obtain ⟨rfl, rfl⟩ := hq
  simp only [List.append_nil] at *
  have again : ∀ sp : Nat → Bool, (∀ x ∈ p, sp x.block = true) → DataW.TrodAll enc P W' 0 sp true f.params.toList args.toList ds p := fun sp hsp =>
    TrodAll.carry (DataW.TrodAll.respare (kids_rows hl hm) hz hT hA hsp) fun x hx => hk.at (hlt x hx)
  have hrl : (Value.bool true).resultList f.resultTypes.size = [.bool true] := by rw [htb]; rfl
  have hrt : f.resultTypes.toList = [tb] := by rw [htb]
  refine ⟨ds, [], p, [], p, [], hW', ?_, ?_, ?_, hk.but _, fun _ => ⟨fun j t r hj hr => ?_, [.lit (.bool true)] ++ ds, [], p, ⟨p, [], ?_, ?_, (by simp), fun b off hp => ?_, hnd⟩, fun x hx _ => hx⟩⟩
  · rw [List.append_nil, hres, hrl, hrt]
    exact trod_true hub
  · rw [List.append_nil, hargs]
    exact again _ fun x hx => by simpa using hlt x hx
  · rw [List.append_nil, hvars, hv]
    rfl
  · rw [hrl] at hr
    rw [htb] at hj
    cases j with
    | zero =>
      simp at hj hr
      subst hj hr
      simp [Value.okWide, hub, Cell.okWide, Cell.ok]
    | succ j => simp at hj
  · have := ChangeShapes.trodAll_append (again (fun _ => true) fun _ _ => rfl) (trod_true (enc := enc) (P := P) (W' := W') (base := 0) (spare := fun _ => true) (held := true) hub)
    rw [hrl, hrt]
    simpa using this
  · rw [hv]
    rfl
  · have h1 := hfz b off hp
    have h2 := hk.same b (hlt _ hp)
    unfold World.frozen? at h1 ⊢
    simp only at h1 ⊢
    rw [h2]
    exact h1

end
end Go.VI

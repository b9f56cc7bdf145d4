/- Regions that draw their order of evaluation: what is checked once, and the state in between. -/
import Derived.Test.YteodaifeknghaaaVi22
import Derived.OrdersIn
namespace Go.VI
variable {g : PG} {c : Ctx} {w : World} {fr fr' : Fr} {a : Act} {callE : CallE} {yieldE : Nm → List PV → Heap → Option (PV × Heap)}

/- ## The static check -/
def ancOf (its : List DPO) (i : Nat) : List Nat :=
  match its.find? (fun x => Nat.beq x.ix i) with
  | some x => x.anc
  | none => []

def edgeOK (os : Array Oper) (its : List DPO) (it : DPO) (j : Nat) : Bool :=
  match os[it.ix]? with
  | some o => o.after.any fun e => Region.binds .any e && Nat.blt e.on it.ix && (Nat.beq e.on j || (ancOf its e.on).contains j)
  | none => false

def pairOK (x y : DPO) : Bool :=
  !Nat.beq x.ix y.ix && !x.anc.contains y.ix &&
  (match x.isC with
   | true => y.anc.contains x.ix
   | false => (match x.o.dst with
     | none => false
     | some d => (!y.o.uses.contains d || y.anc.contains x.ix) && !decide (y.o.dst = some d)) &&
     (match y.isC with
      | true => (y.anc.contains x.ix || (x.o.op.bare && x.o.op.slot.isNone) || y.chk.contains x.ix) && (match y.o.dst with
        | none => true
        | some d => !x.o.uses.contains d || y.anc.contains x.ix)
      | false => !(x.o.op.slot.isSome && decide (x.o.op.slot = y.o.op.slot)))) &&
  (match y.isC with
   | true => true
   | false => (match y.o.dst with
     | none => false
     | some d => !x.o.uses.contains d && !decide (x.o.dst = some d)))

def pairsOK : List DPO → Bool
  | [] => true
  | x :: r => r.all (pairOK x) && pairsOK r

def PG.itemOK (g : PG) (rd : Bool) (os : Array Oper) (its : List DPO) (x : DPO) : Bool :=
  (match os[x.ix]? with
   | some o => g.matchPO rd os x.o o
   | none => false) && x.anc.all (edgeOK os its x) &&
  (match x.isC with
   | true => x.o.op.fixed
   | false => (x.o.op.bare || x.o.op.reads || x.o.op.slot.isSome) && (match x.o.dst with
     | none => false
     | some d => !x.o.uses.contains d))

/-- In the order L every edge that binds points back. -/
def orderOK (md : Region.Mode) (os : Array Oper) : List Nat → List Nat → Bool
  | _, [] => true
  | seen, i :: L => (match os[i]? with
    | some o => o.after.all fun e => !Region.binds md e || seen.contains e.on
    | none => true) && orderOK md os (i :: seen) L

def PG.drawOK (g : PG) (rd : Bool) (os : Array Oper) (its : List DPO) (gcL : List Nat) (mxd : Nat) : Bool :=
  (List.range os.size).all (fun i => its.any fun x => Nat.beq x.ix i) && its.all (fun x => Nat.blt x.ix os.size && g.itemOK rd os its x && (match x.o.dst with | some d => Nat.blt d mxd | none => true)) && pairsOK its &&
  orderOK .any os [] (List.range os.size) && orderOK .text os [] (List.range os.size) &&
  orderOK .gc os [] gcL && gcL.all (fun i => Nat.blt i os.size) && (List.range os.size).all (fun i => gcL.contains i)

theorem pairsOK_get : ∀ {its : List DPO} {pre post : List DPO} {x y : DPO}, pairsOK its = true → its = pre ++ x :: post → y ∈ post → pairOK x y = true
  | [], pre, post, x, y, _, h, _ => by simp at h
  | z :: r, [], post, x, y, hp, h, hy => by
    simp only [List.nil_append, List.cons.injEq] at h
    obtain ⟨rfl, rfl⟩ := h
    simp only [pairsOK, Bool.and_eq_true] at hp
    exact List.all_eq_true.1 hp.1 y hy
  | z :: r, p :: pre, post, x, y, hp, h, hy => by
    simp only [List.cons_append, List.cons.injEq] at h
    simp only [pairsOK, Bool.and_eq_true] at hp
    exact pairsOK_get hp.2 h.2 hy

/-- Two items: one stands before the other. -/
theorem pairs_or {its : List DPO} (hp : pairsOK its = true) {x y : DPO} (hx : x ∈ its) (hy : y ∈ its) : x = y ∨ pairOK x y = true ∨ pairOK y x = true := by
  obtain ⟨pre, post, rfl⟩ := List.append_of_mem hx
  rcases List.mem_append.1 hy with h1 | h1
  · obtain ⟨p1, p2, rfl⟩ := List.append_of_mem h1
    exact .inr (.inr (pairsOK_get hp (pre := p1) (post := p2 ++ x :: post) (by simp) (by simp)))
  · rcases List.mem_cons.1 h1 with h1 | h1
    · exact .inl h1.symm
    · exact .inr (.inl (pairsOK_get hp rfl h1))

theorem pairOK_ix {x y : DPO} (h : pairOK x y = true) : x.ix ≠ y.ix := by
  intro e
  unfold pairOK at h
  simp only [Bool.and_eq_true, Bool.not_eq_true', e] at h
  have := h.1.1.1
  simp at this

theorem ix_inj {its : List DPO} (hp : pairsOK its = true) {x y : DPO} (hx : x ∈ its) (hy : y ∈ its) (h : x.ix = y.ix) : x = y := by
  rcases pairs_or hp hx hy with h1 | h1 | h1
  · exact h1
  · exact absurd h (pairOK_ix h1)
  · exact absurd h.symm (pairOK_ix h1)

theorem binds_any {md : Region.Mode} {e : Edge} (h : Region.binds .any e = true) : Region.binds md e = true := by
  unfold Region.binds at h ⊢
  split <;> simp_all

/-- What is done is closed under what it depends on. -/
def ClosedL (md : Region.Mode) (os : Array Oper) (listed : Array Bool) : Prop := ∀ (i : Nat) (o : Oper) (e : Edge), listed.getD i false = true → os[i]? = some o → e ∈ o.after → Region.binds md e = true → listed.getD e.on false = true

theorem anc_listed {md : Region.Mode} {os : Array Oper} {its : List DPO} {listed : Array Bool} (hA : ∀ x ∈ its, x.anc.all (edgeOK os its x) = true) (hc : ClosedL md os listed) :
    ∀ (n : Nat) (x : DPO), x ∈ its → x.ix = n → listed.getD x.ix false = true → ∀ j ∈ x.anc, listed.getD j false = true := by
  intro n
  induction n using Nat.strongRecOn with
  | _ n ih =>
    intro x hx hn hl j hj
    have h1 := List.all_eq_true.1 (hA x hx) j hj
    unfold edgeOK at h1
    split at h1
    case h_2 => cases h1
    rename_i o ho
    obtain ⟨e, he, h2⟩ : ∃ e, e ∈ o.after ∧ (Region.binds .any e && Nat.blt e.on x.ix && (Nat.beq e.on j || (ancOf its e.on).contains j)) = true := by
      obtain ⟨k, hk, h2⟩ := Array.any_eq_true.1 h1
      exact ⟨_, Array.getElem_mem hk, h2⟩
    simp only [Bool.and_eq_true, Bool.or_eq_true] at h2
    obtain ⟨⟨hb, hlt⟩, h3⟩ := h2
    have hlt : e.on < x.ix := by simpa using hlt
    have hon := hc x.ix o e hl ho he (binds_any hb)
    rcases h3 with h3 | h3
    · rw [← beq_nat h3]; exact hon
    · unfold ancOf at h3
      split at h3
      · rename_i y hy
        have hyi := beq_nat (by simpa using List.find?_some hy)
        exact ih e.on (hn ▸ hlt) y (List.mem_of_find?_eq_some hy) hyi (by rw [hyi]; exact hon) j (by simpa using h3)
      · simp at h3

theorem ready_anc {md : Region.Mode} {os : Array Oper} {its : List DPO} {listed : Array Bool} (hA : ∀ x ∈ its, x.anc.all (edgeOK os its x) = true) (hc : ClosedL md os listed) {x : DPO} (hx : x ∈ its) {o : Oper} (ho : os[x.ix]? = some o)
    (hr : ∀ e ∈ o.after, Region.binds md e = true → listed.getD e.on false = true) : ∀ j ∈ x.anc, listed.getD j false = true := by
  intro j hj
  have h1 := List.all_eq_true.1 (hA x hx) j hj
  unfold edgeOK at h1
  rw [ho] at h1
  obtain ⟨e, he, h2⟩ : ∃ e, e ∈ o.after ∧ (Region.binds .any e && Nat.blt e.on x.ix && (Nat.beq e.on j || (ancOf its e.on).contains j)) = true := by
      obtain ⟨k, hk, h2⟩ := Array.any_eq_true.1 h1
      exact ⟨_, Array.getElem_mem hk, h2⟩
  simp only [Bool.and_eq_true, Bool.or_eq_true] at h2
  obtain ⟨⟨hb, _⟩, h3⟩ := h2
  have hon := hr e he (binds_any hb)
  rcases h3 with h3 | h3
  · rw [← beq_nat h3]; exact hon
  · unfold ancOf at h3
    split at h3
    · rename_i y hy
      have hyi := beq_nat (by simpa using List.find?_some hy)
      exact anc_listed hA hc e.on y (List.mem_of_find?_eq_some hy) hyi (by rw [hyi]; exact hon) j (by simpa using h3)
    · simp at h3

theorem progress {md : Region.Mode} {os : Array Oper} {listed : Array Bool} (hr : Region.ready md os listed = []) : ∀ (L seen : List Nat), orderOK md os seen L = true → (∀ i ∈ seen, listed.getD i false = true) → (∀ i ∈ L, i < os.size) → listed.size = os.size → ∀ i ∈ L, listed.getD i false = true
  | [], _, _, _, _, _, i, hi => by cases hi
  | k :: L, seen, ho, hs, hL, hsz, i, hi => by
    simp only [orderOK, Bool.and_eq_true] at ho
    have hk : k < os.size := hL k (by simp)
    have hok : os[k]? = some os[k] := Array.getElem?_eq_getElem hk
    have h1 := ho.1
    rw [hok] at h1
    simp only at h1
    have hlk : listed.getD k false = true := by
      cases hlk : listed.getD k false with
      | true => rfl
      | false =>
        have : k ∈ Region.ready md os listed := by
          refine mem_ready.2 ⟨?_, os[k], hok, fun e he hb => ?_⟩
          · have hkl : k < listed.size := by rw [hsz]; exact hk
            simpa [Array.getD, hkl] using hlk
          · have h2 := Array.all_eq_true_iff_forall_mem.1 h1 e he
            simp only [hb, Bool.not_true, Bool.false_or] at h2
            exact hs _ (by simpa using h2)
        rw [hr] at this
        cases this
    rcases List.mem_cons.1 hi with rfl | hi
    · exact hlk
    · exact progress hr L (k :: seen) ho.2 (fun j hj => by
        rcases List.mem_cons.1 hj with rfl | hj
        · exact hlk
        · exact hs j hj) (fun j hj => hL j (List.mem_cons_of_mem _ hj)) hsz i hi

end Go.VI

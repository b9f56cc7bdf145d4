/- Evaluations of VI's by rules: no fuel; what holds behind a code. -/
import Derived.Test.YteodaifeknghaaaVi0
namespace Go.VI

/-- From some fuel on. -/
def Evt (p : Nat → Prop) : Prop := ∃ K, ∀ k, K ≤ k → p k

theorem Evt.of {p : Nat → Prop} (h : ∀ k, p k) : Evt p := ⟨0, fun k _ => h k⟩
theorem Evt.mono {p q : Nat → Prop} (h : Evt p) (hq : ∀ k, p k → q k) : Evt q := let ⟨K, h⟩ := h; ⟨K, fun k hk => hq k (h k hk)⟩
theorem Evt.and {p q : Nat → Prop} (h : Evt p) (h' : Evt q) : Evt fun k => p k ∧ q k :=
  let ⟨K, h⟩ := h; let ⟨K', h'⟩ := h'; ⟨max K K', fun k hk => ⟨h k (by omega), h' k (by omega)⟩⟩
theorem Evt.succ {p : Nat → Prop} (h : Evt fun k => p (k + 1)) : Evt p := by
  obtain ⟨K, h⟩ := h
  refine ⟨K + 1, fun k hk => ?_⟩
  have := h (k - 1) (by omega)
  simp only at this
  rwa [show k - 1 + 1 = k by omega] at this
theorem Evt.ex {p : Nat → Prop} (h : Evt p) : ∃ k, p k := let ⟨K, h⟩ := h; ⟨K, h K (Nat.le_refl _)⟩
theorem Evt.eq {α : Type} {f : Nat → Option α} {a b : α} (h : Evt fun k => f k = some a) (h' : Evt fun k => f k = some b) : a = b := by
  obtain ⟨k, h1, h2⟩ := (h.and h').ex
  rw [h1] at h2
  exact Option.some.inj h2

section
variable (E : Env)

open Classical in
/-- What a call says with enough fuel. -/
noncomputable def callR : CallE := fun f args h => if x : ∃ r, Evt fun k => callN E k f args h = some r then some x.choose else none
open Classical in
noncomputable def yieldR : Nm → List PV → Heap → Option (PV × Heap) := fun n args h => if x : ∃ r, Evt fun k => yieldN E k n args h = some r then some x.choose else none

noncomputable def stepX (dst : Option Nat) (o : POp) (fr : Fr) : Option Fr := stepOp E (callR E) (yieldR E) dst o fr

noncomputable def guS (g : Option Bool) (o : PPO) (fr : Fr) : Option Fr :=
  match g with
  | none => none
  | some false => some (fr.put o.dst (.tuple []))
  | some true => stepX E o.dst o.op fr

def optQ (x : Option Fr) (Q : Fr → Prop) : Prop := match x with | some fr => Q fr | none => False

def regQ : List PPO → Fr → (Fr → Prop) → Prop
  | [], fr, Q => Q fr
  | o :: r, fr, Q => optQ (guS E (guardE fr.tmps o.guard) o fr) fun fr' => regQ r fr' Q

def loopQ (a : PC) (fr : Fr) (Q : PEx → Fr → Prop) : Prop := ∃ ex fr', (Evt fun k => evN E k (.loop a) fr = some (ex, fr')) ∧ Q ex fr'

/-- May one go on behind an item? -/
def goOn (past : List DPO) (it : DPO) (fr fr' : Fr) : Prop :=
  (it.isC = true → it.chk = [] ∨ quiet E it.o fr.tmps = true ∨ (past.all fun x => !it.chk.contains x.ix || stable E (callR E) (yieldR E) fr' x.o) = true) ∧ (it.isC = false → freshSlot fr it.o = true)

def pastOf (past : List DPO) (it : DPO) : List DPO := if it.isC then past else it :: past

/-- Items of a region that draws its order. -/
def itemsQ : List DPO → List DPO → Fr → (Fr → Prop) → Prop
  | _, [], fr, Q => Q fr
  | past, it :: r, fr, Q => optQ (guS E (guardE fr.tmps it.o.guard) it.o fr) fun fr' => goOn E past it fr fr' ∧ itemsQ (pastOf past it) r fr' Q

def thenQ (next : Fr → Prop) (Q : PEx → Fr → Prop) : PEx → Fr → Prop
  | .norm, fr => next fr
  | e, fr => Q e fr

def blockQ (id : Nat) (Q : PEx → Fr → Prop) : PEx → Fr → Prop
  | .exit id', fr => if id' = id then Q .norm fr else Q (.exit id') fr
  | e, fr => Q e fr

def condQ (v : PV) (a b : Prop) : Prop :=
  match v with
  | .bool true => a
  | .bool false => b
  | _ => False

def wpE : PC → Fr → (PEx → Fr → Prop) → Prop
  | .skip, fr, Q => Q .norm fr
  | .reg ops, fr, Q => regQ E ops fr (Q .norm)
  | .regd its _ mxd, fr, Q => mxd ≤ fr.tmps.length ∧ itemsQ E [] its (dropSl its fr) (Q .norm)
  | .seq a b, fr, Q => wpE a fr (thenQ (fun fr1 => wpE b fr1 Q) Q)
  | .cond c a b, fr, Q => condQ (evX E fr.tmps c) (wpE a fr Q) (wpE b fr Q)
  | .block id a, fr, Q => wpE a fr (blockQ id Q)
  | .loop a, fr, Q => loopQ E a fr Q
  | .exit id, fr, Q => Q (.exit id) fr
  | .ret, fr, Q => Q .ret fr
  | .cln m a, fr, Q => wpE a { fr with tmps := keepE 0 m fr.tmps } Q
  | .rangef s f ps p q, fr, Q => ∃ ex fr', (Evt fun k => evN E k (.rangef s f ps p q) fr = some (ex, fr')) ∧ Q ex fr'
end

section
variable {E : Env}

theorem callR_spec {f : Nat} {args : List PV} {h : Heap} {r : PV × Heap} (hc : callR E f args h = some r) : Evt fun k => callN E k f args h = some r := by
  unfold callR at hc
  split at hc
  · rename_i x
    simp only [Option.some.injEq] at hc
    exact hc ▸ x.choose_spec
  · cases hc
theorem callR_of {f : Nat} {args : List PV} {h : Heap} {r : PV × Heap} (hc : Evt fun k => callN E k f args h = some r) : callR E f args h = some r := by
  unfold callR
  have x : ∃ r, Evt fun k => callN E k f args h = some r := ⟨r, hc⟩
  rw [dif_pos x]
  exact congrArg some (Evt.eq x.choose_spec hc)
theorem yieldR_spec {n : Nm} {args : List PV} {h : Heap} {r : PV × Heap} (hc : yieldR E n args h = some r) : Evt fun k => yieldN E k n args h = some r := by
  unfold yieldR at hc
  split at hc
  · rename_i x
    simp only [Option.some.injEq] at hc
    exact hc ▸ x.choose_spec
  · cases hc

theorem doCall_evt {f : Nat} {args : List PV} {h : Heap} {r : PV × Heap} (hc : doCall E (callR E) f args h = some r) : Evt fun k => doCall E (callN E k) f args h = some r := by
  unfold doCall at hc
  split at hc
  · cases hc
  rename_i pf hpf
  split at hc
  · rename_i hp
    split at hc
    · rename_i hl
      split at hc
      case h_2 => cases hc
      rename_i v h' he
      refine (callR_spec he).mono fun k hk => ?_
      simp only [doCall, hpf, hp, if_true, hl, hk]
      exact hc
    · rename_i hl
      split at hc
      · cases hc
      rename_i args' ha
      split at hc
      case h_2 => cases hc
      rename_i v h' he
      refine (callR_spec he).mono fun k hk => ?_
      simp only [doCall, hpf, hp, if_true, hl, Bool.false_eq_true, if_false, ha, hk]
      exact hc
  · rename_i hp
    split at hc
    case h_2 => cases hc
    rename_i v h' he
    refine (callR_spec he).mono fun k hk => ?_
    simp only [doCall, hpf, hp, Bool.false_eq_true, if_false, hk]
    exact hc

theorem callV_evt {f : PV} {args : List PV} {h : Heap} {r : PV × Heap} (hc : callV E (callR E) (yieldR E) f args h = some r) : Evt fun k => callV E (callN E k) (yieldN E k) f args h = some r := by
  unfold callV at hc
  split at hc
  · exact doCall_evt hc
  · split at hc
    · rename_i hob
      split at hc
      · rename_i hg
        refine (yieldR_spec hc).mono fun k hk => ?_
        simp only [callV, hob, hg, if_true]
        exact hk
      · cases hc
    · cases hc
  · cases hc

theorem stepOp_nc {ce ce' : CallE} {ye ye' : Nm → List PV → Heap → Option (PV × Heap)} {dst : Option Nat} {o : POp} {fr : Fr} (h1 : ∀ f args, o ≠ .call f args) (h2 : ∀ s cl f args, o ≠ .calla s cl f args) : stepOp E ce ye dst o fr = stepOp E ce' ye' dst o fr := by
  cases o <;> first
    | rfl
    | exact absurd rfl (h1 _ _)
    | exact absurd rfl (h2 _ _ _ _)

theorem stepX_evt {dst : Option Nat} {o : POp} {fr fr' : Fr} (h : stepX E dst o fr = some fr') : Evt fun k => stepOp E (callN E k) (yieldN E k) dst o fr = some fr' := by
  unfold stepX at h
  by_cases h1 : ∃ f args, o = .call f args
  · obtain ⟨f, args, rfl⟩ := h1
    simp only [stepOp] at h
    split at h
    case h_2 => cases h
    rename_i v h' hc
    exact (callV_evt hc).mono fun k hk => by simp only [stepOp, hk]; exact h
  · by_cases h2 : ∃ s cl f args, o = .calla s cl f args
    · obtain ⟨s, cl, f, args, rfl⟩ := h2
      simp only [stepOp] at h
      split at h
      case h_2 => cases h
      rename_i f0 a b hf
      split at h
      case h_2 => cases h
      rename_i pf hpf
      split at h
      case isFalse => cases h
      rename_i hp
      split at h
      case h_2 => cases h
      rename_i n gg len h' hc
      refine (callR_spec hc).mono fun k hk => ?_
      simp only [stepOp, hf, hpf, hp, if_true, hk]
      exact h
    · exact .of fun k => (stepOp_nc (fun f args e => h1 ⟨f, args, e⟩) (fun s cl f args e => h2 ⟨s, cl, f, args, e⟩)).trans h

theorem guS_evt {o : PPO} {fr fr' : Fr} (h : guS E (guardE fr.tmps o.guard) o fr = some fr') : Evt fun k => stepPO E (callN E k) (yieldN E k) o fr = some fr' := by
  unfold guS at h
  split at h
  · cases h
  · rename_i hg
    exact .of fun k => by simp only [stepPO, hg]; exact h
  · rename_i hg
    exact (stepX_evt h).mono fun k hk => by simp only [stepPO, hg]; exact hk

theorem optQ_some {x : Option Fr} {Q : Fr → Prop} (h : optQ x Q) : ∃ fr, x = some fr ∧ Q fr := by
  unfold optQ at h
  split at h
  · exact ⟨_, rfl, h⟩
  · exact h.elim

theorem regQ_sound : ∀ {ops : List PPO} {fr : Fr} {Q : Fr → Prop}, regQ E ops fr Q → ∃ fr', (Evt fun k => runOps E (callN E k) (yieldN E k) ops fr = some fr') ∧ Q fr'
  | [], fr, Q, h => ⟨fr, .of fun k => rfl, h⟩
  | o :: r, fr, Q, h => by
    obtain ⟨fr1, h1, h2⟩ := optQ_some h
    obtain ⟨fr2, h3, h4⟩ := regQ_sound h2
    exact ⟨fr2, ((guS_evt h1).and h3).mono fun k hk => by simp only [runOps, hk.1, hk.2], h4⟩

theorem stable_evt {fr : Fr} {o : PPO} (h : stable E (callR E) (yieldR E) fr o = true) : Evt fun k => stable E (callN E k) (yieldN E k) fr o = true := by
  unfold stable at h ⊢
  split at h
  · cases h
  rename_i d hd
  split at h
  · cases h
  · rename_i hg
    exact .of fun k => h
  · rename_i hg
    split at h
    · exact .of fun k => h
    · rename_i hs
      split at h
      case h_2 => cases h
      rename_i fr' he
      exact (stepX_evt he).mono fun k hk => by rw [hk]; exact h

theorem evt_all {α : Type} {p : Nat → α → Bool} : ∀ (l : List α), (∀ x ∈ l, Evt fun k => p k x = true) → Evt fun k => l.all (p k) = true
  | [], _ => .of fun k => rfl
  | x :: l, h => ((h x (List.mem_cons_self ..)).and (evt_all l fun y hy => h y (List.mem_cons_of_mem _ hy))).mono fun k hk => by rw [List.all_cons, hk.1, hk.2]; rfl

theorem itemsQ_sound : ∀ {its past : List DPO} {fr : Fr} {Q : Fr → Prop}, itemsQ E past its fr Q → ∃ fr', (Evt fun k => runD E (callN E k) (yieldN E k) past its fr = some fr') ∧ Q fr'
  | [], past, fr, Q, h => ⟨fr, .of fun k => by simp [runD], h⟩
  | it :: r, past, fr, Q, h => by
    unfold itemsQ at h
    obtain ⟨fr1, h1, hgo, h2⟩ := optQ_some h
    obtain ⟨fr2, h3, h4⟩ := itemsQ_sound h2
    cases hc : it.isC with
    | true =>
      have hp : pastOf past it = past := by simp [pastOf, hc]
      rw [hp] at h3
      have hq : Evt fun k => (quiet E it.o fr.tmps || past.all (fun x => !it.chk.contains x.ix || stable E (callN E k) (yieldN E k) fr1 x.o)) = true := by
        rcases hgo.1 hc with hq | hq | hq
        · exact .of fun k => by simp [hq]
        · exact .of fun k => by simp [hq]
        · rw [List.all_eq_true] at hq
          refine (evt_all (p := fun k x => !it.chk.contains x.ix || stable E (callN E k) (yieldN E k) fr1 x.o) past fun x hx => ?_).mono fun k hk => by simp only [hk, Bool.or_true]
          have := hq x hx
          rw [Bool.or_eq_true] at this
          rcases this with h5 | h5
          · exact .of fun k => by simp only [h5, Bool.true_or]
          · exact (stable_evt h5).mono fun k hk => by simp only [hk, Bool.or_true]
      refine ⟨fr2, (((guS_evt h1).and h3).and hq).mono fun k hk => ?_, h4⟩
      simp only [runD, hc, if_true, hk.1.1, hk.2, hk.1.2]
    | false =>
      have hp : pastOf past it = it :: past := by simp [pastOf, hc]
      rw [hp] at h3
      refine ⟨fr2, ((guS_evt h1).and h3).mono fun k hk => ?_, h4⟩
      simp only [runD, hc, Bool.false_eq_true, if_false, hgo.2 hc, if_true, hk.1, hk.2]

theorem condQ_some {v : PV} {a b : Prop} (h : condQ v a b) : ∃ t, v = .bool t ∧ (if t = true then a else b) := by
  unfold condQ at h
  split at h
  · exact ⟨true, rfl, h⟩
  · exact ⟨false, rfl, h⟩
  · exact h.elim

theorem wpE_sound : ∀ {c : PC} {fr : Fr} {Q : PEx → Fr → Prop}, wpE E c fr Q → ∃ ex fr', (Evt fun k => evN E k c fr = some (ex, fr')) ∧ Q ex fr'
  | .skip, fr, Q, h => ⟨.norm, fr, .succ (.of fun k => by simp [evN]), h⟩
  | .reg ops, fr, Q, h => by
    obtain ⟨fr', h1, h2⟩ := regQ_sound h
    exact ⟨.norm, fr', .succ (h1.mono fun k hk => by simp only [evN, hk]), h2⟩
  | .regd its gcL mxd, fr, Q, h => by
    obtain ⟨hl, h⟩ := h
    obtain ⟨fr', h1, h2⟩ := itemsQ_sound h
    exact ⟨.norm, fr', .succ (h1.mono fun k hk => by simp only [evN, Nat.ble_eq_true_of_le hl, if_true, hk]), h2⟩
  | .seq a b, fr, Q, h => by
    obtain ⟨ex, fr1, h1, h2⟩ := wpE_sound (c := a) h
    cases ex with
    | norm =>
      obtain ⟨ex, fr2, h3, h4⟩ := wpE_sound (c := b) h2
      exact ⟨ex, fr2, .succ ((h1.and h3).mono fun k hk => by simp only [evN, hk.1, hk.2]), h4⟩
    | exit id => exact ⟨_, fr1, .succ (h1.mono fun k hk => by simp only [evN, hk]), h2⟩
    | ret => exact ⟨_, fr1, .succ (h1.mono fun k hk => by simp only [evN, hk]), h2⟩
  | .cond c a b, fr, Q, h => by
    obtain ⟨t, ht, h⟩ := condQ_some h
    cases t with
    | true =>
      obtain ⟨ex, fr1, h1, h2⟩ := wpE_sound (c := a) h
      exact ⟨ex, fr1, .succ (h1.mono fun k hk => by simp only [evN, ht, if_true, hk]), h2⟩
    | false =>
      obtain ⟨ex, fr1, h1, h2⟩ := wpE_sound (c := b) h
      exact ⟨ex, fr1, .succ (h1.mono fun k hk => by simp only [evN, ht, Bool.false_eq_true, if_false, hk]), h2⟩
  | .block id a, fr, Q, h => by
    obtain ⟨ex, fr1, h1, h2⟩ := wpE_sound (c := a) h
    cases ex with
    | norm => exact ⟨_, fr1, .succ (h1.mono fun k hk => by simp only [evN, hk]), h2⟩
    | ret => exact ⟨_, fr1, .succ (h1.mono fun k hk => by simp only [evN, hk]), h2⟩
    | exit id' =>
      simp only [blockQ] at h2
      split at h2
      · rename_i he
        exact ⟨_, fr1, .succ (h1.mono fun k hk => by simp only [evN, hk, he, if_true]), h2⟩
      · rename_i he
        exact ⟨_, fr1, .succ (h1.mono fun k hk => by simp only [evN, hk, he, if_false]), h2⟩
  | .loop a, fr, Q, h => h
  | .exit id, fr, Q, h => ⟨_, fr, .succ (.of fun k => by simp [evN]), h⟩
  | .ret, fr, Q, h => ⟨_, fr, .succ (.of fun k => by simp [evN]), h⟩
  | .cln m a, fr, Q, h => by
    obtain ⟨ex, fr1, h1, h2⟩ := wpE_sound (c := a) h
    exact ⟨ex, fr1, .succ (h1.mono fun k hk => by simp only [evN, hk]), h2⟩
  | .rangef s f ps p q, fr, Q, h => h

/- ## What is still to be done, as a list -/
/-- Temporaries, as a list of those that hold something. -/
def look : List (Nat × PV) → Nat → PV
  | [], _ => .junk
  | (j, v) :: r, i => if j = i then v else look r i

def mk (n : Nat) (l : List (Nat × PV)) : List PV := (List.range n).map (look l)

theorem mk_len {n : Nat} {l : List (Nat × PV)} : (mk n l).length = n := by simp [mk]
theorem mk_get {n i : Nat} {l : List (Nat × PV)} : (mk n l).getD i .junk = if i < n then look l i else .junk := by
  simp only [mk, List.getD, List.getElem?_map]
  by_cases h : i < n
  · simp [h]
  · simp [h]
theorem mk_set {n i : Nat} {v : PV} {l : List (Nat × PV)} : (mk n l).set i v = mk n ((i, v) :: l) := by
  apply List.ext_getElem?
  intro j
  rw [List.getElem?_set]
  simp only [mk, List.getElem?_map, List.length_map, List.length_range]
  by_cases h : i = j
  · subst h
    by_cases hi : i < n
    · simp [hi, look]
    · simp [hi]
  · by_cases hj : j < n
    · simp [h, hj, look]
    · simp [h, hj]

/-- Ascending. -/
def asc : List Nat → Bool
  | [] => true
  | [_] => true
  | a :: b :: r => Nat.blt a b && asc (b :: r)

def keepL (ks : List Nat) : List (Nat × PV) → List (Nat × PV)
  | [] => []
  | (i, v) :: r => if i ∈ ks then (i, v) :: keepL ks r else keepL ks r

theorem look_keepL {ks : List Nat} : ∀ {l : List (Nat × PV)} {i : Nat}, look (keepL ks l) i = if i ∈ ks then look l i else .junk
  | [], i => by simp [keepL, look]
  | (j, v) :: r, i => by
    have ih := look_keepL (ks := ks) (l := r) (i := i)
    unfold keepL
    by_cases hj : j ∈ ks
    · rw [if_pos hj]
      by_cases hji : j = i
      · subst hji
        simp [look, hj]
      · simp [look, hji, ih]
    · rw [if_neg hj, ih]
      by_cases hi : i ∈ ks
      · have : j ≠ i := fun e => hj (e ▸ hi)
        simp [look, hi, this]
      · simp [hi]

theorem keepE_at : ∀ (l : List PV) (ks : List Nat) (k : Nat), asc ks = true → (∀ q ∈ ks, k ≤ q) → ∀ i, (keepE k ks l)[i]? = if i + k ∈ ks then l[i]? else (l[i]?).map fun _ => .junk
  | [], ks, k, _, _, i => by simp [keepE]
  | v :: r, [], k, ha, hk, i => by
    simp only [keepE, List.not_mem_nil, if_false]
    cases i with
    | zero => simp
    | succ i =>
      have := keepE_at r [] (k + 1) rfl (fun q hq => by cases hq) i
      simpa using this
  | v :: r, q :: ks, k, ha, hk, i => by
    have hasc : asc ks = true ∧ ∀ x ∈ ks, q < x := by
      clear hk
      induction ks generalizing q with
      | nil => exact ⟨rfl, fun x hx => by cases hx⟩
      | cons b ks ih =>
        simp only [asc, Bool.and_eq_true] at ha
        obtain ⟨h1, h2⟩ := ih b ha.2
        have hqb : q < b := by simpa using ha.1
        refine ⟨ha.2, fun x hx => ?_⟩
        rcases List.mem_cons.1 hx with rfl | hx
        · exact hqb
        · exact Nat.lt_trans hqb (h2 x hx)
    obtain ⟨ha', hlt⟩ := hasc
    unfold keepE
    split
    · rename_i hq
      have hq : k = q := Nat.eq_of_beq_eq_true hq
      subst hq
      cases i with
      | zero => simp
      | succ i =>
        have := keepE_at r ks (k + 1) ha' (fun x hx => hlt x hx) i
        rw [List.getElem?_cons_succ, List.getElem?_cons_succ, this]
        have e : i + 1 + k = i + (k + 1) := by omega
        rw [e]
        have hne : ¬ i + (k + 1) = k := by omega
        simp [hne]
    · rename_i hq
      have hq : k ≠ q := fun e => hq (by rw [e]; exact Nat.beq_refl q)
      have hkq := hk q (List.mem_cons_self ..)
      cases i with
      | zero =>
        have h1 : ¬ (0 + k = q) := by omega
        have h2 : ¬ (0 + k ∈ ks) := fun hx => by have := hlt _ hx; omega
        rw [Nat.zero_add] at h1 h2
        simp [h1, h2]
      | succ i =>
        have := keepE_at r (q :: ks) (k + 1) ha (fun x hx => by
          rcases List.mem_cons.1 hx with rfl | hx
          · omega
          · have := hlt x hx; omega) i
        rw [List.getElem?_cons_succ, List.getElem?_cons_succ, this]
        have e : i + 1 + k = i + (k + 1) := by omega
        rw [e]

theorem mk_keep {n : Nat} {ks : List Nat} {l : List (Nat × PV)} (h : asc ks = true) : keepE 0 ks (mk n l) = mk n (keepL ks l) := by
  apply List.ext_getElem?
  intro i
  rw [keepE_at _ _ 0 h (fun q _ => Nat.zero_le q) i]
  simp only [mk, List.getElem?_map, Nat.add_zero]
  by_cases hi : i < n
  · simp [hi, look_keepL]
    split <;> rfl
  · simp [hi]

inductive KI where
  | code (c : PC)
  | ops (l : List PPO)
  | its (past l : List DPO)
  | blk (id : Nat)

def kQ (E : Env) : List KI → (PEx → Fr → Prop) → PEx → Fr → Prop
  | [], Q, ex, fr => Q ex fr
  | .code c :: ks, Q, .norm, fr => wpE E c fr (kQ E ks Q)
  | .ops l :: ks, Q, .norm, fr => regQ E l fr (kQ E ks Q .norm)
  | .its past l :: ks, Q, .norm, fr => itemsQ E past l fr (kQ E ks Q .norm)
  | .blk id :: ks, Q, ex, fr => blockQ id (kQ E ks Q) ex fr
  | _ :: ks, Q, ex, fr => kQ E ks Q ex fr

def optK (E : Env) (x : Option Fr) (ks : List KI) (Q : PEx → Fr → Prop) : Prop := optQ x (kQ E ks Q .norm)
/-- Behind an item of a region that draws its order. -/
def optD (E : Env) (x : Option Fr) (past : List DPO) (it : DPO) (r : List DPO) (fr : Fr) (ks : List KI) (Q : PEx → Fr → Prop) : Prop := optQ x fun fr' => goOn E past it fr fr' ∧ kQ E (.its (pastOf past it) r :: ks) Q .norm fr'
def condK (E : Env) (v : PV) (a b : PC) (ks : List KI) (Q : PEx → Fr → Prop) (fr : Fr) : Prop := condQ v (kQ E (.code a :: ks) Q .norm fr) (kQ E (.code b :: ks) Q .norm fr)

variable {ks : List KI} {Q : PEx → Fr → Prop} {fr fr' : Fr}

theorem thenQ_kQ {b : PC} : thenQ (fun fr1 => wpE E b fr1 (kQ E ks Q)) (kQ E ks Q) = kQ E (.code b :: ks) Q := by
  funext ex fr
  cases ex <;> rfl

theorem blockQ_kQ {id : Nat} : blockQ id (kQ E ks Q) = kQ E (.blk id :: ks) Q := by
  funext ex fr
  cases ex <;> rfl

theorem K_nil {ex : PEx} : kQ E [] Q ex fr = Q ex fr := rfl
theorem K_skip : kQ E (.code .skip :: ks) Q .norm fr = kQ E ks Q .norm fr := rfl
theorem K_seq {a b : PC} : kQ E (.code (.seq a b) :: ks) Q .norm fr = kQ E (.code a :: .code b :: ks) Q .norm fr := by
  show wpE E a fr _ = wpE E a fr _
  rw [thenQ_kQ]
theorem K_reg {l : List PPO} : kQ E (.code (.reg l) :: ks) Q .norm fr = kQ E (.ops l :: ks) Q .norm fr := rfl
theorem K_regd {l : List DPO} {gc : List Nat} {m : Nat} : kQ E (.code (.regd l gc m) :: ks) Q .norm fr = (m ≤ fr.tmps.length ∧ kQ E (.its [] l :: ks) Q .norm (dropSl l fr)) := rfl
theorem K_cond {c : PX} {a b : PC} : kQ E (.code (.cond c a b) :: ks) Q .norm fr = condK E (evX E fr.tmps c) a b ks Q fr := rfl
theorem K_block {id : Nat} {a : PC} : kQ E (.code (.block id a) :: ks) Q .norm fr = kQ E (.code a :: .blk id :: ks) Q .norm fr := by
  show wpE E a fr _ = wpE E a fr _
  rw [blockQ_kQ]
theorem K_loop {a : PC} : kQ E (.code (.loop a) :: ks) Q .norm fr = loopQ E a fr (kQ E ks Q) := rfl
theorem K_exit {id : Nat} : kQ E (.code (.exit id) :: ks) Q .norm fr = kQ E ks Q (.exit id) fr := rfl
theorem K_ret : kQ E (.code .ret :: ks) Q .norm fr = kQ E ks Q .ret fr := rfl
theorem K_cln {m : List Nat} {a : PC} : kQ E (.code (.cln m a) :: ks) Q .norm fr = kQ E (.code a :: ks) Q .norm { fr with tmps := keepE 0 m fr.tmps } := rfl
theorem K_keep {m : List Nat} {a : PC} {L n : Nat} {l : List (Nat × PV)} {h : Heap} {d : List (Option (Nat × List PV))} (hm : asc m = true) (hk : kQ E (.code a :: ks) Q .norm { lvl := L, tmps := mk n (keepL m l), heap := h, defers := d }) : kQ E (.code (.cln m a) :: ks) Q .norm { lvl := L, tmps := mk n l, heap := h, defers := d } := by
  rw [K_cln]
  simp only [mk_keep hm]
  exact hk
theorem K_onil : kQ E (.ops [] :: ks) Q .norm fr = kQ E ks Q .norm fr := rfl
theorem K_ocons {o : PPO} {r : List PPO} : kQ E (.ops (o :: r) :: ks) Q .norm fr = optK E (guS E (guardE fr.tmps o.guard) o fr) (.ops r :: ks) Q := rfl
theorem K_inil {past : List DPO} : kQ E (.its past [] :: ks) Q .norm fr = kQ E ks Q .norm fr := by
  show itemsQ E past [] fr _ = _
  simp [itemsQ]
theorem K_icons {past : List DPO} {it : DPO} {r : List DPO} : kQ E (.its past (it :: r) :: ks) Q .norm fr = optD E (guS E (guardE fr.tmps it.o.guard) it.o fr) past it r fr ks Q := by
  show itemsQ E past (it :: r) fr _ = _
  rw [itemsQ]
  rfl
theorem K_bnorm {id : Nat} : kQ E (.blk id :: ks) Q .norm fr = kQ E ks Q .norm fr := rfl
theorem K_bret {id : Nat} : kQ E (.blk id :: ks) Q .ret fr = kQ E ks Q .ret fr := rfl
theorem K_bexit {id id' : Nat} : kQ E (.blk id :: ks) Q (.exit id') fr = if id' = id then kQ E ks Q .norm fr else kQ E ks Q (.exit id') fr := rfl
theorem K_cret {c : PC} : kQ E (.code c :: ks) Q .ret fr = kQ E ks Q .ret fr := rfl
theorem K_cexit {c : PC} {id : Nat} : kQ E (.code c :: ks) Q (.exit id) fr = kQ E ks Q (.exit id) fr := rfl
theorem optK_some : optK E (some fr) ks Q = kQ E ks Q .norm fr := rfl
theorem optD_c {past : List DPO} {ix : Nat} {o : PPO} {anc : List Nat} {r : List DPO} : optD E (some fr') past { ix := ix, o := o, isC := true, anc := anc, chk := [] } r fr ks Q = kQ E (.its past r :: ks) Q .norm fr' := by
  simp [optD, optQ, goOn, pastOf]
theorem optD_r {past : List DPO} {ix : Nat} {o : PPO} {anc chk : List Nat} {r : List DPO} : optD E (some fr') past { ix := ix, o := o, isC := false, anc := anc, chk := chk } r fr ks Q = (freshSlot fr o = true ∧ kQ E (.its ({ ix := ix, o := o, isC := false, anc := anc, chk := chk } :: past) r :: ks) Q .norm fr') := by
  simp [optD, optQ, goOn, pastOf]
theorem condK_t {a b : PC} : condK E (.bool true) a b ks Q fr = kQ E (.code a :: ks) Q .norm fr := rfl
theorem condK_f {a b : PC} : condK E (.bool false) a b ks Q fr = kQ E (.code b :: ks) Q .norm fr := rfl
theorem guS_t {o : PPO} : guS E (some true) o fr = stepX E o.dst o.op fr := rfl
theorem guS_f {o : PPO} : guS E (some false) o fr = some (fr.put o.dst (.tuple [])) := rfl

/-- Either way. -/
theorem condK_split {p : Prop} [Decidable p] {a b : PC} (h1 : p → kQ E (.code a :: ks) Q .norm fr) (h2 : ¬ p → kQ E (.code b :: ks) Q .norm fr) : condK E (.bool (decide p)) a b ks Q fr := by
  by_cases h : p
  · rw [decide_eq_true h]; exact h1 h
  · rw [decide_eq_false h]; exact h2 h

theorem wpE_of {c : PC} (h : kQ E [.code c] Q .norm fr) : wpE E c fr Q := h

/-- One round of a loop. -/
theorem loop_step {a : PC} {Q : PEx → Fr → Prop} (h : wpE E a fr (thenQ (fun fr1 => loopQ E a fr1 Q) Q)) : loopQ E a fr Q := by
  obtain ⟨ex, fr1, h1, h2⟩ := wpE_sound h
  cases ex with
  | norm =>
    obtain ⟨ex, fr2, h3, h4⟩ := h2
    exact ⟨ex, fr2, .succ ((h1.and h3).mono fun k hk => by simp only [evN, hk.1, hk.2]), h4⟩
  | exit id => exact ⟨_, fr1, .succ (h1.mono fun k hk => by simp only [evN, hk]), h2⟩
  | ret => exact ⟨_, fr1, .succ (h1.mono fun k hk => by simp only [evN, hk]), h2⟩

theorem loopK {a : PC} (h : kQ E (.code a :: .code (.loop a) :: ks) Q .norm fr) : loopQ E a fr (kQ E ks Q) := by
  refine loop_step ?_
  have e : thenQ (fun fr1 => loopQ E a fr1 (kQ E ks Q)) (kQ E ks Q) = kQ E (.code (.loop a) :: ks) Q := thenQ_kQ (b := .loop a)
  rw [e]
  exact h

theorem loopQ_mono {a : PC} {Q Q' : PEx → Fr → Prop} (h : loopQ E a fr Q) (hQ : ∀ ex fr, Q ex fr → Q' ex fr) : loopQ E a fr Q' :=
  let ⟨ex, fr', h1, h2⟩ := h; ⟨ex, fr', h1, hQ _ _ h2⟩

/-- What a function's body must end in. -/
def endQ (rs : List RV) (r : PV) : PEx → Fr → Prop := fun ex fr => (match ex with | .exit _ => False | _ => True) ∧ fr.defers = [] ∧ resultsE fr.heap fr.tmps rs = some r
theorem endQ_ret {rs : List RV} {r : PV} {L : Nat} {T : List PV} {h : Heap} : endQ rs r .ret { lvl := L, tmps := T, heap := h, defers := [] } = (resultsE h T rs = some r) := by simp [endQ]
theorem endQ_norm {rs : List RV} {r : PV} {L : Nat} {T : List PV} {h : Heap} : endQ rs r .norm { lvl := L, tmps := T, heap := h, defers := [] } = (resultsE h T rs = some r) := by simp [endQ]

def enum : Nat → List PV → List (Nat × PV)
  | _, [] => []
  | i, v :: r => (i, v) :: enum (i + 1) r

theorem look_enum : ∀ (l : List PV) (k i : Nat), look (enum k l) (k + i) = l.getD i .junk
  | [], k, i => by simp [enum, look]
  | v :: r, k, 0 => by simp [enum, look]
  | v :: r, k, i + 1 => by
    have := look_enum r (k + 1) i
    have h : ¬ k = k + (i + 1) := by omega
    simp only [enum, look, h, if_false, List.getD_cons_succ]
    rw [← this]
    congr 1
    omega

/-- A call's frame, as it begins. -/
theorem start_eq {args : List PV} {m : Nat} : keepE 0 (List.range args.length) (args ++ List.replicate m (.tuple [])) = mk (args.length + m) (enum 0 args) := by
  have hasc : ∀ n k, asc (List.range' k n) = true := by
    intro n
    induction n with
    | zero => intro k; rfl
    | succ n ih =>
      intro k
      cases n with
      | zero => rfl
      | succ n =>
        have := ih (k + 1)
        simp only [List.range'_succ, asc, Bool.and_eq_true] at this ⊢
        exact ⟨by simp, this⟩
  apply List.ext_getElem?
  intro i
  rw [keepE_at _ _ 0 (by rw [List.range_eq_range']; exact hasc _ _) (fun q _ => Nat.zero_le q) i]
  simp only [mk, List.getElem?_map, Nat.add_zero, List.mem_range]
  by_cases h1 : i < args.length
  · have h2 := look_enum args 0 i
    rw [Nat.zero_add] at h2
    rw [if_pos h1, List.getElem?_append_left h1, List.getElem?_range (by omega), List.getElem?_eq_getElem h1]
    simp [h2, List.getD, List.getElem?_eq_getElem h1]
  · rw [if_neg h1]
    by_cases h3 : i < args.length + m
    · have h2 := look_enum args 0 i
      rw [Nat.zero_add] at h2
      rw [List.getElem?_append_right (by omega), List.getElem?_replicate, if_pos (by omega), List.getElem?_range h3]
      simp [h2, List.getD, List.getElem?_eq_none (show args.length ≤ i by omega)]
    · rw [List.getElem?_eq_none (by simp; omega), List.getElem?_eq_none (by simp; omega)]
      rfl

theorem body_evt {f : Nat} {pf : PFn} {args : List PV} {r : PV} {c : PC} (hpf : E.pf f = some pf) (hb : pf.body = .cln (List.range args.length) c) (hn : args.length = pf.nparams)
    (hw : kQ E [.code c] (endQ pf.results r) .norm { lvl := 0, tmps := mk (args.length + (pf.ntmps - pf.nparams)) (enum 0 args), heap := [List.replicate pf.nobjs none], defers := [] }) :
    ∃ h', Evt fun k => callN E k f args [] = some (r, h') := by
  have hw' : kQ E [.code pf.body] (endQ pf.results r) .norm { lvl := 0, tmps := args ++ List.replicate (pf.ntmps - pf.nparams) (.tuple []), heap := [List.replicate pf.nobjs none], defers := [] } := by
    rw [hb, K_cln]
    simp only [start_eq]
    exact hw
  obtain ⟨ex, fr, h1, hex, hd, hres⟩ := wpE_sound (wpE_of hw')
  have hdef : Evt fun k => defN E k fr.defers fr.heap = some fr.heap := .succ (.of fun k => by rw [hd]; rfl)
  refine ⟨fr.heap, .succ ((h1.and hdef).mono fun k hk => ?_)⟩
  simp only [callN, hpf, hn, if_true, List.length_nil, List.nil_append]
  rw [hk.1]
  cases ex with
  | exit id => exact hex.elim
  | norm => simp only [hk.2, hres]
  | ret => simp only [hk.2, hres]

/-- A call of a function that writes nothing of its caller's, on values that never change. -/
theorem call_pure {f : Nat} {pf : PFn} {args : List PV} {r : PV} {c : PC} (hpf : E.pf f = some pf) (hp : pf.pure = true) (hb : pf.body = .cln (List.range args.length) c) (hn : args.length = pf.nparams) (hlow : PV.lowL 0 args = true) (hr : r.low 0 = true)
    (hw : kQ E [.code c] (endQ pf.results r) .norm { lvl := 0, tmps := mk (args.length + (pf.ntmps - pf.nparams)) (enum 0 args), heap := [List.replicate pf.nobjs none], defers := [] }) (h : Heap) :
    doCall E (callR E) f args h = some (r, h) := by
  obtain ⟨h', hcall⟩ := body_evt hpf hb hn hw
  have hpop : pop 0 r h' = some (r, []) := by
    unfold pop
    have : snap h' 0 4 r = some r := by simp [snap, hr]
    rw [this]
    simp [heapLow]
  simp only [doCall, hpf, hp, if_true, hlow, callR_of hcall, hpop]

/-- The same for the call itself. -/
theorem callN_pure {f : Nat} {pf : PFn} {args : List PV} {r : PV} {c : PC} (hpf : E.pf f = some pf) (hb : pf.body = .cln (List.range args.length) c) (hn : args.length = pf.nparams)
    (hw : kQ E [.code c] (endQ pf.results r) .norm { lvl := 0, tmps := mk (args.length + (pf.ntmps - pf.nparams)) (enum 0 args), heap := [List.replicate pf.nobjs none], defers := [] }) :
    ∃ k h', callN E k f args [] = some (r, h') := by
  obtain ⟨h', hcall⟩ := body_evt hpf hb hn hw
  obtain ⟨k, hk⟩ := hcall.ex
  exact ⟨k, h', hk⟩

theorem getD_setT {T : List PV} {i j : Nat} {v : PV} : (T.set i v).getD j .junk = if i = j ∧ i < T.length then v else T.getD j .junk := by
  simp only [List.getD, List.getElem?_set]
  by_cases h : i = j
  · subst h
    by_cases hl : i < T.length
    · simp [hl]
    · simp [hl]
  · simp [h]

theorem hget_0 {l : List (Option Ob)} {i : Nat} : hget [l] (0, i) = (l[i]?).bind id := rfl
theorem hset_0 {l : List (Option Ob)} {i : Nat} {o : Ob} : hset [l] (0, i) o = [l.set i (some o)] := rfl
theorem getD_0 {l : List (Option Ob)} : ([l] : Heap).getD 0 [] = l := rfl

end
end Go.VI

/- Chapter 20: the type of an error-free expression is a known and clean one. -/
import Derived.Test.YtefikcjiblkmgaaGreatDoorF20rc
set_option maxRecDepth 100000
set_option linter.unusedSimpArgs false
set_option linter.unusedVariables false
set_option pp.deepTerms.threshold 4
set_option pp.deepTerms false
namespace Go.VI.S
open Go.VI
def Ty.Gd (t : Ty) : Prop := t.Cl ∧ t.Kn
def GdR (r : Ty × Int) : Prop := r.2 = 0 → r.1.Gd
structure Mod.Gd (m : Mod) : Prop where
  us : ∀ f ∈ m.us,f.ty.Gd
  ins : ∀ f ∈ m.ins,f.ty.Gd
  outs : ∀ f ∈ m.outs,f.ty.Gd
  ss : ∀ s ∈ m.ss, ∀ f ∈ s.fs,f.ty.Gd
  fs : ∀ f ∈ m.fs,f.res.Gd
theorem gd_k {k : Int} (h : 1 ≤ k ∧ k ≤ 8) : Ty.Gd ⟨k,[]⟩ := ⟨fun _ => rfl,h⟩
theorem gd_e {t : Ty} {c : Int} (h : c ≠ 0) : GdR (t,c) := fun e => absurd e h
theorem gd_t {b : Bool} {t : Ty} (h : b = true → t.Gd) : GdR (typedF b t) := by
  cases b
  · exact gd_e (by decide)
  · exact fun _ => h rfl
theorem nm_kn {k : Int} (h : isNm k = true) : 1 ≤ k ∧ k ≤ 8 := by
  simp [isNm,isSc,isVc] at h; omega
theorem vc_kn {k : Int} (h : isVc k = true) : 1 ≤ k ∧ k ≤ 8 := by
  simp [isVc] at h; omega
theorem getD_cl {ts : List Ty} (h : ∀ t ∈ ts,t.Cl) (i : Nat) : (ts.getD i tz).Cl := by
  rw [List.getD_eq_getElem?_getD]
  cases e : ts[i]? with
  | none => exact fun _ => rfl
  | some t => exact h t (List.mem_of_getElem? e)
theorem gd_lit {j v l : Int} (h : 1 ≤ j ∧ j ≤ 8) : GdR (litF j v l) := by
  unfold litF
  split
  · exact gd_e (by decide)
  · exact fun _ => gd_k h
theorem gd_un {op : Int} {t : Ty} (h : t.Cl) : GdR (unaryF op t) := by
  unfold unaryF
  split
  · exact gd_t fun e => ⟨h,nm_kn e⟩
  · split
    · exact gd_t fun e => ⟨h,by simp at e; unfold Ty.Kn; omega⟩
    · exact gd_e (by decide)
theorem gd_bin {op : Int} {t u : Ty} (h : t.Cl) : GdR (binaryF op t u) := by
  unfold binaryF
  split
  · split
    · next e => exact fun _ => ⟨h,vc_kn e.1⟩
    · exact gd_t fun e => ⟨h,nm_kn (by simp at e; exact e.2)⟩
  · split
    · exact gd_t fun e => ⟨h,nm_kn (by simp at e; exact e.2)⟩
    · split
      · exact gd_t fun e => ⟨h,by simp at e; unfold Ty.Kn; omega⟩
      · split
        · exact gd_t fun e => ⟨h,by simp at e; unfold Ty.Kn; omega⟩
        · split
          · exact gd_t fun _ => gd_k (by decide)
          · split
            · exact gd_t fun _ => gd_k (by decide)
            · exact gd_e (by decide)
theorem tyAt_gd {l : List Fld} (h : ∀ f ∈ l,f.ty.Gd) {i : Int} (h0 : 0 ≤ i) (h1 : i < l.length) : (tyAt l i).Gd := by
  have : i.toNat < l.length := by omega
  simp only [tyAt,List.getElem?_eq_getElem this,Option.map_some,Option.getD_some]
  exact h _ (List.getElem_mem _)
theorem gd_match {ts : List Ty} {ps : List Fld} {res : Ty} (h : res.Gd) : GdR (matchF ts ps res) := by
  unfold matchF
  split
  · exact gd_e (by decide)
  · split
    · exact fun _ => h
    · exact gd_e (by decide)
theorem gd_con {m : Mod} {k : Int} {ts : List Ty} (h : 1 ≤ k ∧ k ≤ 8) : GdR (constructF m k ts) := by
  unfold constructF
  split
  · split
    · exact gd_e (by decide)
    · split
      · exact gd_e (by decide)
      · exact fun _ => gd_k h
  · split
    · exact gd_t fun _ => gd_k h
    · exact gd_e (by decide)
theorem gd_val {rest want : List Ty} {res : Ty} (h : res.Gd) : GdR (valF rest want res) := by
  unfold valF
  split
  · exact gd_e (by decide)
  · exact gd_t fun _ => h
theorem gd_blt {nm : Str} {ts : List Ty} (h : ∀ t ∈ ts,t.Cl) : GdR (builtinF nm ts) := by
  have h0 := getD_cl h 0
  unfold builtinF
  split
  · exact gd_e (by decide)
  · split
    · exact gd_t fun e => ⟨h0,nm_kn (by rw [Bool.and_eq_true] at e; exact e.2)⟩
    · split
      · exact gd_t fun _ => gd_k (by decide)
      · split
        · refine gd_t fun e => ⟨h0, ?_⟩
          rw [Bool.and_eq_true,Bool.and_eq_true,Bool.or_eq_true,decide_eq_true_eq] at e
          rcases e.2.2 with e | e
          · rw [of_decide_eq_true e]; exact ⟨by decide,by decide⟩
          · exact vc_kn e
        · exact gd_t fun _ => gd_k (by decide)
theorem gd_res {m : Mod} (hg : m.Gd) {sc : List Fld} {nm : Str} {xs : List Ex} {ts : List Ty} : GdR (resourceF m sc nm xs ts) := by
  unfold resourceF
  split
  · exact gd_e (by decide)
  · next a _ =>
    split
    · exact gd_e (by decide)
    · split
      · split
        · exact gd_e (by decide)
        · split
          · exact gd_val (gd_k (by decide))
          · exact gd_val (gd_k (by decide))
      · split
        · split
          · exact gd_e (by decide)
          · exact gd_val (gd_k (by decide))
        · split
          · exact gd_e (by decide)
          · next e =>
            split
            · exact gd_e (by decide)
            · split
              · exact gd_e (by decide)
              · split
                · exact gd_e (by decide)
                · exact fun _ => tyAt_gd hg.ins (by omega) (idxF_bd _ _).2.1
theorem gd_mem {m : Mod} (hg : m.Gd) {t : Ty} {nm : Str} : GdR (memF m t nm) := by
  unfold memF
  split
  · split
    · exact fun _ => gd_k (by decide)
    · exact gd_e (by decide)
  · split
    · exact gd_e (by decide)
    · split
      · exact gd_e (by decide)
      · next e =>
        split
        · exact gd_e (by decide)
        · next e2 =>
          obtain ⟨s,hs,_,hf⟩ := scts_get (m := m) (j := stF m t.name) (by omega) (stF_bd m _).2
          refine fun _ => tyAt_gd ?_ (by omega) (idxF_bd _ _).2.1
          rw [hf]
          exact hg.ss s hs
theorem lastF_mem {l : List Fld} {nm : Str} {f : Fld} (h : lastF l nm = some f) : f ∈ l := by
  unfold lastF at h
  exact List.mem_reverse.1 (List.mem_of_find?_eq_some h)
theorem firstF_mem {l : List Fld} {nm : Str} {f : Fld} (h : firstF l nm = some f) : f ∈ l := List.mem_of_find?_eq_some h
theorem gd_var {m : Mod} (hg : m.Gd) {sc : List Fld} (hs : ∀ f ∈ sc,f.ty.Gd) {nm : Str} : GdR (varR m sc nm) := by
  unfold varR
  cases hv : varF m sc nm with
  | none => exact gd_e (by decide)
  | some t =>
    refine fun _ => ?_
    unfold varF at hv
    cases h1 : lastF sc nm with
    | some f => rw [h1] at hv; simp at hv; rw [← hv]; exact hs f (lastF_mem h1)
    | none =>
      cases h2 : firstF m.us nm with
      | some f => rw [h1,h2] at hv; simp at hv; rw [← hv]; exact hg.us f (firstF_mem h2)
      | none =>
        cases h3 : firstF m.ins nm with
        | some f => rw [h1,h2,h3] at hv; simp at hv; rw [← hv]; exact hg.ins f (firstF_mem h3)
        | none =>
          rw [h1,h2,h3] at hv
          cases h4 : firstF m.outs nm with
          | some f => rw [h4] at hv; simp at hv; rw [← hv]; exact hg.outs f (firstF_mem h4)
          | none => rw [h4] at hv; simp at hv
theorem gd_call {m : Mod} (hg : m.Gd) {sc : List Fld} {nm : Str} {xs : List Ex} {ts : List Ty} (h : ∀ t ∈ ts,t.Cl) : GdR (callF m sc nm xs ts) := by
  have hw := wordF_bd nm
  unfold callF
  split
  · exact gd_con (by omega)
  · split
    · exact gd_match ⟨fun e => absurd rfl e,show (1 : Int) ≤ 8 by decide,show (8 : Int) ≤ 8 by decide⟩
    · split
      · exact gd_res hg
      · split
        · exact gd_blt h
        · split
          · split
            · next f hf => exact gd_match (hg.fs f (List.mem_of_getElem? hf))
            · exact gd_e (by decide)
          · exact gd_e (by decide)
theorem gd_node {m : Mod} (hg : m.Gd) {sc : List Fld} (hs : ∀ f ∈ sc,f.ty.Gd) {k o x : Int} {nm : Str} {xs : List Ex} {ts : List Ty} (h : ∀ t ∈ ts,t.Cl) : GdR (nodeF m sc k o nm x xs ts) := by
  have h0 := getD_cl h 0
  unfold nodeF
  split
  · exact gd_lit (by decide)
  · split
    · exact gd_lit (by decide)
    · split
      · exact gd_lit (by decide)
      · split
        · exact gd_var hg hs
        · split
          · exact gd_un h0
          · split
            · exact gd_bin h0
            · split
              · exact gd_mem hg
              · split
                · split
                  · exact fun _ => gd_k (by decide)
                  · exact gd_e (by decide)
                · exact gd_call hg h
theorem gd_out {r : Ty × Int} (h : GdR r) : GdR (outF r) := by
  unfold outF
  split
  · next e => exact gd_e e
  · next e => exact fun _ => h (by omega)
theorem cons_cl {t : Ty} {r : Except Int (List Ty)} {ts : List Ty} (ht : t.Cl) (hr : ∀ l,r = .ok l → ∀ t ∈ l,t.Cl) (h : consX t r = .ok ts) : ∀ t ∈ ts,t.Cl := by
  cases r with
  | error c => simp [consX] at h
  | ok l =>
    simp [consX] at h
    rw [← h]
    intro u hu
    rcases List.mem_cons.1 hu with e | hu
    · rw [e]; exact ht
    · exact hr l rfl u hu
mutual
theorem exprF_good {m : Mod} (hg : m.Gd) {sc : List Fld} (hs : ∀ f ∈ sc,f.ty.Gd) : ∀ e : Ex,GdR (exprF m sc e)
  | .mk k o nm x fl xs => by
    have ih := argsF_good hg hs xs
    unfold exprF
    split
    · exact gd_e (by decide)
    · split
      · next c hc => exact gd_e ((ih _).1 c hc)
      · next ts hc => exact gd_out (gd_node hg hs ((ih _).2 ts hc))
theorem argsF_good {m : Mod} (hg : m.Gd) {sc : List Fld} (hs : ∀ f ∈ sc,f.ty.Gd) : ∀ (l : List Ex) (skip : Bool),(∀ c,argsF m sc skip l = .error c → c ≠ 0) ∧ (∀ ts,argsF m sc skip l = .ok ts → ∀ t ∈ ts,t.Cl)
  | [],skip => ⟨fun c h => by simp [argsF] at h,fun ts h => by simp [argsF] at h; simp [h]⟩
  | a :: r,skip => by
    have ia := exprF_good hg hs a
    have ir := argsF_good hg hs r false
    have ce : ∀ t c,consX t (argsF m sc false r) = .error c → c ≠ 0 := by
      intro t c h
      cases hr : argsF m sc false r with
      | ok l => rw [hr] at h; simp [consX] at h
      | error d => rw [hr] at h; simp [consX] at h; rw [← h]; exact ir.1 d hr
    unfold argsF
    split
    · exact ⟨ce tz,fun ts => cons_cl (fun _ => rfl) ir.2⟩
    · split
      · next e => exact ⟨fun c h => by simp at h; rw [← h]; exact e,fun ts h => by simp at h⟩
      · next e => exact ⟨ce _,fun ts => cons_cl (ia (by omega)).1 ir.2⟩
end
theorem out_e {c : Int} : outF (tz,c) = (tz,c) := by
  unfold outF
  split
  · rfl
  · next h => simp at h; simp [h]
theorem out_0 {t : Ty} : outF (t,0) = (t,0) := by simp [outF]
theorem out_t {b : Bool} {t : Ty} : outF (typedF b t) = typedF b t := by cases b <;> rfl
theorem out_lit {k v l : Int} : outF (litF k v l) = litF k v l := by
  unfold litF; (repeat' split) <;> first | exact out_e | exact out_0
theorem out_un {o : Int} {t : Ty} : outF (unaryF o t) = unaryF o t := by
  unfold unaryF; (repeat' split) <;> first | exact out_e | exact out_t
theorem out_bin {o : Int} {t u : Ty} : outF (binaryF o t u) = binaryF o t u := by
  unfold binaryF; (repeat' split) <;> first | exact out_e | exact out_t | exact out_0
theorem out_var {m : Mod} {sc : List Fld} {nm : Str} : outF (varR m sc nm) = varR m sc nm := by
  unfold varR; split <;> first | exact out_e | exact out_0
theorem out_mem {m : Mod} {t : Ty} {nm : Str} : outF (memF m t nm) = memF m t nm := by
  unfold memF; (repeat' split) <;> first | exact out_e | exact out_0
theorem out_match {ts : List Ty} {ps : List Fld} {t : Ty} : outF (matchF ts ps t) = matchF ts ps t := by
  unfold matchF; (repeat' split) <;> first | exact out_e | exact out_0
theorem out_con {m : Mod} {k : Int} {ts : List Ty} : outF (constructF m k ts) = constructF m k ts := by
  unfold constructF; (repeat' split) <;> first | exact out_e | exact out_t | exact out_0
theorem out_blt {nm : Str} {ts : List Ty} : outF (builtinF nm ts) = builtinF nm ts := by
  unfold builtinF; (repeat' split) <;> first | exact out_e | exact out_t | exact out_0
theorem out_val {a b : List Ty} {t : Ty} : outF (valF a b t) = valF a b t := by
  unfold valF; (repeat' split) <;> first | exact out_e | exact out_t | exact out_0
theorem out_res {m : Mod} {sc : List Fld} {nm : Str} {xs : List Ex} {ts : List Ty} : outF (resourceF m sc nm xs ts) = resourceF m sc nm xs ts := by
  unfold resourceF; (repeat' split) <;> first | exact out_e | exact out_val | exact out_0
theorem out_call {m : Mod} {sc : List Fld} {nm : Str} {xs : List Ex} {ts : List Ty} : outF (callF m sc nm xs ts) = callF m sc nm xs ts := by
  unfold callF; (repeat' split) <;> first | exact out_e | exact out_con | exact out_match | exact out_res | exact out_blt | exact out_0
theorem out_node {m : Mod} {sc : List Fld} {k o x : Int} {nm : Str} {xs : List Ex} {ts : List Ty} : outF (nodeF m sc k o nm x xs ts) = nodeF m sc k o nm x xs ts := by
  unfold nodeF; (repeat' split) <;> first | exact out_lit | exact out_var | exact out_un | exact out_bin | exact out_mem | exact out_call | exact out_e | exact out_0
theorem args_gd {m : Mod} (hg : m.Gd) {sc : List Fld} (hs : ∀ f ∈ sc,f.ty.Gd) : ∀ (l : List Ex) (ts : List Ty),argsF m sc false l = .ok ts → ∀ t ∈ ts,t.Gd
  | [],ts,h => by simp [argsF] at h; simp [h]
  | a :: r,ts,h => by
    have ia := exprF_good hg hs a
    have ir := args_gd hg hs r
    unfold argsF at h
    rw [if_neg (c := false = true) (by simp)] at h
    split at h
    · cases h
    · next e =>
      have e0 : (exprF m sc a).2 = 0 := by omega
      cases hr : argsF m sc false r with
      | error c => rw [hr] at h; simp [consX] at h
      | ok l =>
        rw [hr] at h
        simp [consX] at h
        rw [← h]
        intro t ht
        rcases List.mem_cons.1 ht with e | ht
        · rw [e]; exact ia e0
        · exact ir l hr t ht
theorem exprF_eq {m : Mod} {sc : List Fld} {k o x : Int} {nm : Str} {fl : Fl} {xs : List Ex} (hk : k = 7 ∨ (xs.length : Int) = arityF k) : exprF m sc (.mk k o nm x fl xs) = (match argsF m sc (takesF m k nm) xs with | .error c => (tz,c) | .ok ts => nodeF m sc k o nm x xs ts) := by
  rw [exprF,if_neg (by omega)]
  cases argsF m sc (takesF m k nm) xs with
  | error c => rfl
  | ok ts => exact out_node
theorem takes_k {m : Mod} {k : Int} {nm : Str} (h : k ≠ 7) : takesF m k nm = false := by simp [takesF,h]
end Go.VI.S

/- Which operation of VI's stands for which operation of the machine's; the operations that make no call. -/
import Derived.Test.YteodaifeknghaaaVi15
namespace Go.VI
variable {g : PG} {c : Ctx} {w : World} {fr fr' : Fr} {a : Act} {o : Oper} {callE : CallE} {yieldE : Nm → List PV → Heap → Option (PV × Heap)}

def PG.elemOK (g : PG) (t : TypeId) (f : TypeId → TypeInfo → Bool) : Bool :=
  match g.P.underlying t with
  | some (.slice E) => (match g.P.info? E with
    | some i => f E i
    | none => false)
  | _ => false
theorem PG.elemOK_spec {t : TypeId} {f : TypeId → TypeInfo → Bool} (h : g.elemOK t f = true) : ∃ E i, g.P.underlying t = some (.slice E) ∧ g.P.info? E = some i ∧ f E i = true := by
  unfold PG.elemOK at h
  split at h
  · rename_i E hE
    split at h
    · rename_i i hi; exact ⟨E, i, hE, hi, h⟩
    · cases h
  · cases h

def PG.arrOK (g : PG) (t : TypeId) (f : Nat → TypeId → TypeInfo → Bool) : Bool :=
  match g.P.underlying t with
  | some (.array n E) => (match g.P.info? E with
    | some i => f n E i
    | none => false)
  | _ => false
theorem PG.arrOK_spec {t : TypeId} {f : Nat → TypeId → TypeInfo → Bool} (h : g.arrOK t f = true) : ∃ n E i, g.P.underlying t = some (.array n E) ∧ g.P.info? E = some i ∧ f n E i = true := by
  unfold PG.arrOK at h
  split at h
  · rename_i n E hE
    split at h
    · rename_i i hi; exact ⟨n, E, i, hE, hi, h⟩
    · cases h
  · cases h

def PG.mapOK (g : PG) (t : TypeId) (f : TypeId → TypeId → TypeDesc → Bool) : Bool :=
  match g.P.underlying t with
  | some (.map k e) => (match g.P.underlying k with
    | some d => f k e d
    | none => false)
  | _ => false
theorem PG.mapOK_spec {t : TypeId} {f : TypeId → TypeId → TypeDesc → Bool} (h : g.mapOK t f = true) : ∃ k e d, g.P.underlying t = some (.map k e) ∧ g.P.underlying k = some d ∧ f k e d = true := by
  unfold PG.mapOK at h
  split at h
  · rename_i k e hE
    split at h
    · rename_i d hd; exact ⟨k, e, d, hE, hd, h⟩
    · cases h
  · cases h

def PG.fieldOK (g : PG) (t : TypeId) (fi : Nat) (f : Field → Bool) : Bool :=
  match g.P.underlying t with
  | some (.struct fs) => (match fs[fi]? with
    | some x => f x
    | none => false)
  | _ => false
theorem PG.fieldOK_spec {t : TypeId} {fi : Nat} {f : Field → Bool} (h : g.fieldOK t fi f = true) : ∃ fs x, g.P.underlying t = some (.struct fs) ∧ fs[fi]? = some x ∧ f x = true := by
  unfold PG.fieldOK at h
  split at h
  · rename_i fs hE
    split at h
    · rename_i x hx; exact ⟨fs, x, hE, hx, h⟩
    · cases h
  · cases h

def PG.infoOK (g : PG) (t : TypeId) (f : TypeInfo → Bool) : Bool :=
  match g.P.info? t with
  | some i => f i
  | none => false
theorem PG.infoOK_spec {t : TypeId} {f : TypeInfo → Bool} (h : g.infoOK t f = true) : ∃ i, g.P.info? t = some i ∧ f i = true := by
  unfold PG.infoOK at h
  split at h
  · rename_i i hi; exact ⟨i, hi, h⟩
  · cases h

def zeroOK (i : TypeInfo) (f : Value → Bool) : Bool :=
  match i.zero with
  | some z => f z
  | none => false
theorem zeroOK_spec {i : TypeInfo} {f : Value → Bool} (h : zeroOK i f = true) : ∃ z, i.zero = some z ∧ f z = true := by
  unfold zeroOK at h
  split at h
  · rename_i z hz; exact ⟨z, hz, h⟩
  · cases h

def isStr (d : Option TypeDesc) : Bool := match d with | some .string => true | _ => false
def isSome' {α : Type} (d : Option α) : Bool := match d with | some _ => true | _ => false
theorem isStr_spec {d : Option TypeDesc} (h : isStr d = true) : d = some .string := by unfold isStr at h; split at h <;> simp_all
theorem isSome'_spec {α : Type} {d : Option α} (h : isSome' d = true) : ∃ x, d = some x := by unfold isSome' at h; split at h <;> simp_all

def PG.arg1 (g : PG) (x : PX) (l : List Operand) : Bool := match l with | [y] => g.matchX x y | _ => false
theorem PG.arg1_spec {x : PX} {args : Array Operand} (h : g.arg1 x args.toList = true) : ∃ y, args = #[y] ∧ g.matchX x y = true := by
  unfold PG.arg1 at h
  split at h
  · rename_i y hy; exact ⟨y, Array.ext' (by simpa using hy), h⟩
  · cases h

def tyOK (ty : Array TypeId) (f : TypeId → Bool) : Bool := match ty[0]? with | some t => f t | none => false
theorem tyOK_spec {ty : Array TypeId} {f : TypeId → Bool} (h : tyOK ty f = true) : ∃ t, ty[0]? = some t ∧ f t = true := by
  unfold tyOK at h
  split at h
  · rename_i t ht; exact ⟨t, ht, h⟩
  · cases h

def PG.buildOK (g : PG) (t : TypeId) (ps : List (Nat × Nat × PX)) (qs : List (Nat × Operand)) : Bool :=
  match g.P.underlying t with
  | some (.struct fs) => (fs.toList.all fun f => (g.P.info? f.type).isSome) && g.matchParts (structPlace g.P fs) ps qs
  | some (.array _ e) => (match g.P.info? e with
    | some ie => g.matchParts (fun j => some (j * ie.size, ie.size)) ps qs
    | none => false)
  | _ => false

def PG.bslOK (g : PG) (t : TypeId) (n : Nat) (qs : Array (Nat × Operand)) (sz : Option Nat) (z : List PV) (ps : List (Nat × PX)) : Bool :=
  g.elemOK t fun _ i => zeroOK i fun zv => Nat.beq z.length n && z.all (fun e => constZ e zv.cells) && Nat.beq zv.cells.size i.size && Nat.ble (n * i.size) 16777216 && g.matchElems ps qs.toList && (match sz with | some s => Nat.beq s i.size | none => true)

def PG.callOK (g : PG) (f : PX) (args : List PX) : Op → Bool
  | .call ⟨.value f', args', _⟩ => g.matchX f f' && g.matchXs args args'.toList
  | _ => false

def PG.matchOp (g : PG) (p : POp) (o : Op) : Bool :=
  match p with
  | .mov x => (match o with
    | .move y => g.matchX x y
    | .assign y => g.matchX x y
    | .call ⟨.builtin .len, args, ty⟩ => (match x with
      | .c (.int .i64 n) => Nat.beq args.size 1 && tyOK ty fun t => g.arrOK t fun m _ _ => n == m
      | _ => false)
    | _ => false)
  | .frz x => (match o with
    | .move y => g.matchX x y
    | .assign y => g.matchX x y
    | _ => false)
  | .vec _ _ _ => (match o with
    | .move (.const (.slice none 0 0)) => true
    | .assign (.const (.slice none 0 0)) => true
    | _ => false)
  | .pick c a b => (match o with
    | .pick c' a' b' => g.matchX c c' && g.matchX a a' && g.matchX b b'
    | _ => false)
  | .alloc _ z => (match o with
    | .alloc t => g.infoOK t fun i => zeroOK i fun zv => constZ z zv.cells
    | _ => false)
  | .box _ x => (match o with
    | .box _ y => g.matchX x y
    | _ => false)
  | .boxi x => (match o with
    | .box _ y => g.matchX x y
    | _ => false)
  | .build z ps => (match o with
    | .build t qs => g.infoOK t (fun i => zeroOK i fun zv => constOKL z zv.cells.toList) && g.buildOK t ps qs.toList
    | _ => false)
  | .bsl z ps => (match o with
    | .buildSlice t n qs => g.bslOK t n qs none z ps
    | _ => false)
  | .bslm _ _ sz z ps => (match o with
    | .buildSlice t n qs => g.bslOK t n qs (some sz) z ps
    | _ => false)
  | .load k x => (match o with
    | .load t y => kOK g.P t k && g.matchX x y
    | _ => false)
  | .store k x y => (match o with
    | .store t x' y' => kOK g.P t k && isSome' (g.P.info? t) && g.matchX x x' && g.matchX y y'
    | _ => false)
  | .nilc x => (match o with
    | .nilCheck y => g.matchX x y
    | _ => false)
  | .bini op x y => (match o with
    | .binOp op' _ x' y' _ => decide (op = op') && g.matchX x x' && g.matchX y y'
    | _ => false)
  | .bins op x y => (match o with
    | .binOp op' _ x' y' _ => decide (op = op') && g.matchX x x' && g.matchX y y'
    | _ => false)
  | .eq neg sh x y => (match o with
    | .binOp op t x' y' _ => decide (op = if neg then .neq else .eql) && g.matchX x x' && g.matchX y y' && eqOK g.P sh t && Nat.ble sh.depth 9999 && !g.P.eqGuardType g.P.depth t
    | _ => false)
  | .neg x => (match o with
    | .unOp .neg _ y => g.matchX x y
    | _ => false)
  | .compl x => (match o with
    | .unOp .xor _ y => g.matchX x y
    | _ => false)
  | .notb x => (match o with
    | .unOp .not _ y => g.matchX x y
    | _ => false)
  | .conv k x => (match o with
    | .convert t t' y => isSome' (g.P.underlying t) && (match g.P.underlying t' with | some (.int k') => decide (k = k') | _ => false) && g.matchX x y
    | _ => false)
  | .convs x => (match o with
    | .convert t t' y => isStr (g.P.underlying t) && isStr (g.P.underlying t') && g.matchX x y
    | _ => false)
  | .mkfn f a b => (match o with
    | .makeFunc (.func f') a' b' => f == f' && g.matchXs a a'.toList && g.matchXs b b'.toList
    | _ => false)
  | .mkmap _ => (match o with
    | .makeMap _ none => true
    | .makeMap t (some (.const (.int _ _))) => g.mapOK t fun _ _ _ => true
    | _ => false)
  | .mkslice _ _ bytes z l n => (match o with
    | .makeSlice t l' n' => g.elemOK t (fun _ i => zeroOK i fun zv => constZ z zv.cells && Nat.beq zv.cells.size i.size && Nat.beq i.bytes bytes) && g.matchX l l' && g.matchX n n'
    | _ => false)
  | .sls x lo hi => (match o with
    | .slice t x' lo' hi' none => isStr (g.P.underlying t) && g.matchX x x' && g.matchO lo lo' && g.matchO hi hi'
    | _ => false)
  | .slc sz x lo hi mx => (match o with
    | .slice t x' lo' hi' mx' => g.elemOK t (fun _ i => Nat.beq i.size sz) && g.matchX x x' && g.matchO lo lo' && g.matchO hi hi' && g.matchO mx mx'
    | _ => false)
  | .faddr off x => (match o with
    | .fieldAddr t y fi => g.fieldOK t fi (fun f => Nat.beq f.offset off && g.infoOK f.type fun i => !Nat.beq i.size 0) && g.matchX x y
    | _ => false)
  | .fld off k x => (match o with
    | .field t y fi => g.fieldOK t fi (fun f => Nat.beq f.offset off && kOK g.P f.type k) && g.matchX x y
    | _ => false)
  | .iaddr sz x i => (match o with
    | .indexAddr t x' i' => g.elemOK t (fun _ i => Nat.beq i.size sz) && g.matchX x x' && g.matchX i i'
    | _ => false)
  | .iaddra n sz x i => (match o with
    | .indexAddr t x' i' => g.arrOK t (fun m _ i => Nat.beq m n && Nat.beq i.size sz) && g.matchX x x' && g.matchX i i'
    | _ => false)
  | .idx n sz k x i => (match o with
    | .index t x' i' => g.arrOK t (fun m e i => Nat.beq m n && Nat.beq i.size sz && kOK g.P e k) && g.matchX x x' && g.matchX i i'
    | _ => false)
  | .idxs x i => (match o with
    | .index t x' i' => isStr (g.P.underlying t) && g.matchX x x' && g.matchX i i'
    | _ => false)
  | .lookup str z ok m k => (match o with
    | .lookup t m' k' ok' => (ok == ok') && g.mapOK t (fun kt et _ => keyOK g.P kt str && g.infoOK et fun i => zeroOK i fun zv => constOK z zv) && g.matchX m m' && g.matchX k k'
    | _ => false)
  | .mupd str m k x => (match o with
    | .mapUpdate t m' k' x' => g.mapOK t (fun kt _ _ => keyOK g.P kt str) && g.matchX m m' && g.matchX k k' && g.matchX x x'
    | _ => false)
  | .extract x i => (match o with
    | .extract y j => Nat.beq i j && g.matchX x y
    | _ => false)
  | .lens x => (match o with
    | .call ⟨.builtin .len, args, ty⟩ => g.arg1 x args.toList && tyOK ty fun t => isStr (g.P.underlying t)
    | _ => false)
  | .lenl x => (match o with
    | .call ⟨.builtin .len, args, ty⟩ => g.arg1 x args.toList && tyOK ty fun t => g.elemOK t fun _ _ => true
    | _ => false)
  | .lenm x => (match o with
    | .call ⟨.builtin .len, args, ty⟩ => g.arg1 x args.toList && tyOK ty fun t => g.mapOK t fun _ _ _ => true
    | _ => false)
  | .capl x => (match o with
    | .call ⟨.builtin .cap, args, ty⟩ => g.arg1 x args.toList && tyOK ty fun t => g.elemOK t fun _ _ => true
    | _ => false)
  | .append _ _ sz bytes x y => (match o with
    | .call ⟨.builtin .append, args, ty⟩ => (match args.toList, ty.toList with
      | [x', y'], [t, tx] => g.elemOK t (fun _ i => Nat.beq i.size sz && Nat.beq i.bytes bytes && zeroOK i fun zv => Nat.beq zv.cells.size i.size) && g.elemOK tx (fun _ _ => true) && g.matchX x x' && g.matchX y y'
      | _, _ => false)
    | _ => false)
  | .mx x r => (match o with
    | .call ⟨.builtin .max, args, _⟩ => g.matchXs (x :: r) args.toList
    | _ => false)
  | .mn x r => (match o with
    | .call ⟨.builtin .min, args, _⟩ => g.matchXs (x :: r) args.toList
    | _ => false)
  | .eqnil k neg x => (match o with
    | .binOp op t x' y' _ => decide (op = if neg then .neq else .eql) && (match x', y' with
      | .const v, .const u => (nilK g.P t u k && g.matchX x (.const v)) || (nilK g.P t v k && g.matchX x (.const u))
      | .const v, y => nilK g.P t v k && g.matchX x y
      | y, .const v => nilK g.P t v k && g.matchX x y
      | _, _ => false)
    | _ => false)
  | .call f args => g.callOK f args o
  | .calla _ _ f args => g.callOK f args o
  | .defer f args => (match o with
    | .defer ⟨.value f', args', _⟩ => g.matchX f f' && g.matchXs args args'.toList
    | _ => false)
  | _ => false

/-- Operations that call. -/
def POp.calls : POp → Bool
  | .call _ _ => true
  | .calla _ _ _ _ => true
  | .defer _ _ => true
  | _ => false

theorem beq_nat {a b : Nat} (h : Nat.beq a b = true) : a = b := Nat.eq_of_beq_eq_true h

theorem ok_lena (h : FrRel g c w fr a) {n : Nat} {E t : TypeId} {args : Array Operand} {ty : Array TypeId} (ho : o.op = .call { callee := .builtin .len, args := args, argTypes := ty }) (hty : ty[0]? = some t) (hargs : args.size = 1) (ht : g.P.underlying t = some (.array n E))
    (hs : stepOp g.E callE yieldE o.dst (.mov (.c (.int .i64 n))) fr = some fr') : OpOK g c w fr fr' a o.dst ((execOp a.eval o).run g.P w) := by
  simp only [stepOp, Option.some.injEq] at hs
  subst hs
  refine OpOK.value h _ (v := .int .i64 n) ?_ (.i _ _ (.int _ _))
  obtain ⟨y, hy⟩ : ∃ y, args = #[y] := by
    match args, hargs with
    | ⟨[y]⟩, _ => exact ⟨y, rfl⟩
  subst hy
  simp [execOp, ho, resolve, invoke, builtin, Builtin.len_, hty, run_underlying' g.P _ ht, goInt]

theorem lay_slot {s : Nat} {dst : Option Nat} {p : POp} (hp : p.slot = some s) : stepOp g.E callE yieldE dst p fr = fr.lay dst s (layE (evX g.E fr.tmps) (fr.nm s) p) := by
  cases p <;> simp [POp.slot] at hp <;> subst hp <;> rfl

end Go.VI

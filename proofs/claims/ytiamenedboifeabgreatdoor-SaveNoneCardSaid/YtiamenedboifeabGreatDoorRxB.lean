/- A reflective evaluator of the model's code, part B: the abstract memory, what it says of a world, and what a step may do. -/
import Derived.Test.YtiamenedboifeabGreatDoorRxA
namespace Go.Proofs.YtiamenedboifeabGreatDoor.Rx

inductive AB where
  | cells (elem : TypeId) (n : Nat) (cs : T AV) (row : Bool) (fz : Nat) (back : Bool)
  | map (es : List (AV × AV × Nat)) (clock : Nat)
  | siter (s : ByteArray) (pos : Nat)
  | miter (m : Option Nat) (since : Nat) (seen : List Nat) (last : Nat)
  | defd (live : Bool)
  | loop (state : LoopState) (pend : Option Code) (F : T AV) (n : Nat) (params : Array Tmp) (assign body : Code) (dfr : Nat)

structure Mem where
  next : Nat
  bl : T AB

structure Env where
  P : Program
  fn : T Func
  gl : T (T Value)
  ext : T Nat
  bt : TypeId
  con : FuncId → List AV → Option AV := fun _ _ => none
  opc : Op → (Operand → AV) → Option AV := fun _ _ => none
  opn : Op → (Operand → AV) → Option AV := fun _ _ => none
  sy : Place := fun _ => none
  old : Nat → Option (Option Obj) := fun _ => none
  tys : T Ty := .leaf
  facts : List (Exp × Bool) := []

def Env.gcell (E : Env) (g off : Nat) : Option Value :=
  match E.gl.get g with
  | some t => t.get off
  | none => none

/-- What is said of the memory below the base: the constant variables, and blocks that are known. -/
def Env.Still (E : Env) (base : Nat) (w : World) : Prop :=
  (∀ g off v, E.gcell g off = some v → g < base ∧ w.cell? ⟨g, off, none⟩ = some v) ∧ ∀ k o, E.old k = some o → k < base ∧ w.heap[k]? = o

theorem Env.Still.mono {E : Env} {base : Nat} {w w' : World} (h : E.Still base w) (hk : ∀ k, k < base → w'.heap[k]? = w.heap[k]?) : E.Still base w' := by
  refine ⟨fun g off v hv => ?_, fun k o ho => ?_⟩
  · obtain ⟨h1, h2⟩ := h.1 g off v hv
    refine ⟨h1, ?_⟩
    rw [← h2]
    simp only [World.cell?]
    rw [hk g h1]
  · obtain ⟨h1, h2⟩ := h.2 k o ho
    exact ⟨h1, by rw [hk k h1]; exact h2⟩

def ER (ρ : Place) : List (AV × AV × Nat) → List MapEntry → Prop
  | [], es => es = []
  | (k, v, n) :: r, es => ∃ e es', es = e :: es' ∧ VR ρ k e.key ∧ VR ρ v e.val ∧ e.born = n ∧ ER ρ r es'

theorem ER.mono {ρ ρ' : Place} (h : ρ.le ρ') : ∀ {a : List (AV × AV × Nat)} {es : List MapEntry}, ER ρ a es → ER ρ' a es
  | [], _, e => e
  | (k, v, n) :: r, _, e => by
    simp only [ER] at e ⊢
    obtain ⟨x, xs, h1, h2, h3, h4, h5⟩ := e
    exact ⟨x, xs, h1, h2.mono h, h3.mono h, h4, ER.mono h h5⟩

/-- The abstract cell of a row of cells. -/
def cellOf (cs : T AV) (i : Nat) : AV :=
  match cs.get i with
  | some v => v
  | none => .unk

/-- The map that an iterator goes over. -/
def MR (ρ : Place) : Option Nat → Option Nat → Prop
  | none, mb => mb = none
  | some b, mb => ∃ l, ρ b = some l ∧ mb = some l.blk

theorem MR.mono {ρ ρ' : Place} (h : ρ.le ρ') {m mb : Option Nat} (e : MR ρ m mb) : MR ρ' m mb := by
  cases m with
  | none => exact e
  | some b => obtain ⟨l, h1, h2⟩ := e; exact ⟨l, h _ _ h1, h2⟩

/-- The temporaries of a loop's record. -/
def LR (ρ : Place) (F : T AV) (n : Nat) (tmps : Array Value) : Prop :=
  tmps.size = n ∧ ∀ t, VR ρ (cellOf F t) (tmps.getD t undef)

theorem LR.mono {ρ ρ' : Place} (h : ρ.le ρ') {F : T AV} {n : Nat} {tmps : Array Value} (e : LR ρ F n tmps) : LR ρ' F n tmps :=
  ⟨e.1, fun t => (e.2 t).mono h⟩

def BR (ρ : Place) (l : Loc) (x : AB) (w : World) : Prop :=
  match x with
  | .cells elem n cs row fz back => ∃ arr lo hi, w.heap[l.blk]? = some (.cells arr elem (lo, hi)) ∧ l.off = 0 ∧ l.off + n ≤ l.ext ∧ l.ext ≤ arr.size ∧
      (row = false → arr.size = n) ∧ (∀ i, i < n → ∃ v, arr[l.off + i]? = some v ∧ VR ρ (cellOf cs i) v) ∧
      (∀ o, l.off + fz ≤ o → o < l.ext → ¬ (lo ≤ o ∧ o < hi)) ∧ (back = false → hi ≤ l.off + fz)
  | .map es clock => l.off = 0 ∧ ∃ ents, w.heap[l.blk]? = some (.map ents clock) ∧ ER ρ es ents.toList
  | .siter s pos => l.off = 0 ∧ w.heap[l.blk]? = some (.stringIter s pos)
  | .miter m since seen last => l.off = 0 ∧ ∃ mb, MR ρ m mb ∧ w.heap[l.blk]? = some (.mapIter mb since seen.toArray last)
  | .defd live => l.off = 0 ∧ w.heap[l.blk]? = some (.deferred (cond live (some []) none))
  | .loop state pend F n params assign body dfr => l.off = 0 ∧ ∃ fn tmps ld, ρ dfr = some ld ∧ LR ρ F n tmps ∧
      w.heap[l.blk]? = some (.loop { state := state, pending := pend, fn := fn, tmps := tmps, params := params, assign := assign, body := body, defers := ld.blk })

theorem BR.mono {ρ ρ' : Place} (h : ρ.le ρ') {l : Loc} {x : AB} {w : World} (e : BR ρ l x w) : BR ρ' l x w := by
  cases x with
  | cells elem n cs row fz back =>
    obtain ⟨arr, lo, hi, h1, h0, h2, h3, h4, h5, h6, h7⟩ := e
    exact ⟨arr, lo, hi, h1, h0, h2, h3, h4, fun i hi => let ⟨v, a, b⟩ := h5 i hi; ⟨v, a, b.mono h⟩, h6, h7⟩
  | map es clock =>
    obtain ⟨h0, ents, h1, h2⟩ := e
    exact ⟨h0, ents, h1, h2.mono h⟩
  | siter s pos => exact e
  | miter m since seen last =>
    obtain ⟨h0, mb, h1, h2⟩ := e
    exact ⟨h0, mb, h1.mono h, h2⟩
  | defd live => exact e
  | loop state pend F n params assign body dfr =>
    obtain ⟨h0, fn, tmps, ld, h1, h2, h3⟩ := e
    exact ⟨h0, fn, tmps, ld, h _ _ h1, h2.mono h, h3⟩

theorem BR.congr {ρ : Place} {l : Loc} {x : AB} {w w' : World} (hw : w'.heap[l.blk]? = w.heap[l.blk]?) (e : BR ρ l x w) : BR ρ l x w' := by
  cases x <;> simp only [BR, hw] at e ⊢ <;> exact e

theorem BR.here {ρ : Place} {l : Loc} {x : AB} {w : World} (e : BR ρ l x w) : l.blk < w.heap.size := by
  have : ∃ o, w.heap[l.blk]? = some o := by
    cases x with
    | cells => obtain ⟨arr, lo, hi, h1, _⟩ := e; exact ⟨_, h1⟩
    | map => obtain ⟨_, ents, h1, _⟩ := e; exact ⟨_, h1⟩
    | siter => obtain ⟨_, h1⟩ := e; exact ⟨_, h1⟩
    | miter => obtain ⟨_, _, _, h1⟩ := e; exact ⟨_, h1⟩
    | defd => obtain ⟨_, h1⟩ := e; exact ⟨_, h1⟩
    | loop => obtain ⟨_, _, _, _, _, _, h1⟩ := e; exact ⟨_, h1⟩
  obtain ⟨o, ho⟩ := this
  rcases Nat.lt_or_ge l.blk w.heap.size with h | h
  · exact h
  · rw [Array.getElem?_eq_none h] at ho; cases ho

structure Cons (E : Env) (base : Nat) (ρ : Place) (M : Mem) (w : World) : Prop where
  blk : ∀ b x, M.bl.get b = some x → ∃ l, ρ b = some l ∧ BR ρ l x w
  inj : ∀ b b' x x' l l', M.bl.get b = some x → M.bl.get b' = some x' → ρ b = some l → ρ b' = some l' → l.blk = l'.blk → b = b'
  bound : ∀ b l, ρ b = some l → b < M.next
  low : ∀ b l, ρ b = some l → base ≤ l.blk
  glob : E.Still base w
  sym : E.sy.le ρ

structure Step (E : Env) (base : Nat) (ρ : Place) (w : World) (M : Mem) (ρ' : Place) (w' : World) (M' : Mem) : Prop where
  ext : ρ.le ρ'
  cons : Cons E base ρ' M' w'
  frame : ∀ k, k < w.heap.size → (∀ b x l, M.bl.get b = some x → ρ b = some l → l.blk ≠ k) → w'.heap[k]? = w.heap[k]?
  size : w.heap.size ≤ w'.heap.size
  img : ∀ b x l, M'.bl.get b = some x → ρ' b = some l → w.heap.size ≤ l.blk ∨ ∃ b0 x0 l0, M.bl.get b0 = some x0 ∧ ρ b0 = some l0 ∧ l0.blk = l.blk
  fresh : ∀ b l, ρ' b = some l → ρ b = some l ∨ M.next ≤ b
  next : M.next ≤ M'.next
  os : w'.os = w.os
  tape : w'.tape = w.tape
  output : w'.output = w.output

theorem Step.refl {E : Env} {base : Nat} {ρ : Place} {M : Mem} {w : World} (h : Cons E base ρ M w) : Step E base ρ w M ρ w M where
  ext := .refl ρ
  cons := h
  frame _ _ _ := rfl
  size := Nat.le_refl _
  img b x l hb hl := .inr ⟨b, x, l, hb, hl, rfl⟩
  fresh _ _ h := .inl h
  next := Nat.le_refl _
  os := rfl
  tape := rfl
  output := rfl

theorem Step.trans {E : Env} {base : Nat} {ρ ρ' ρ'' : Place} {M M' M'' : Mem} {w w' w'' : World} (h : Step E base ρ w M ρ' w' M') (k : Step E base ρ' w' M' ρ'' w'' M'') :
    Step E base ρ w M ρ'' w'' M'' where
  ext := h.ext.trans k.ext
  cons := k.cons
  frame i hi hn := by
    rw [k.frame i (Nat.lt_of_lt_of_le hi h.size) ?_, h.frame i hi hn]
    intro b x l hb hl e
    rcases h.img b x l hb hl with hge | ⟨b0, x0, l0, h1, h2, h3⟩
    · omega
    · exact hn b0 x0 l0 h1 h2 (h3.trans e)
  size := Nat.le_trans h.size k.size
  img b x l hb hl := by
    rcases k.img b x l hb hl with hge | ⟨b0, x0, l0, h1, h2, h3⟩
    · exact .inl (Nat.le_trans h.size hge)
    · rcases h.img b0 x0 l0 h1 h2 with hge | ⟨b1, x1, l1, k1, k2, k3⟩
      · exact .inl (h3 ▸ hge)
      · exact .inr ⟨b1, x1, l1, k1, k2, k3.trans h3⟩
  fresh b l hl := by
    rcases k.fresh b l hl with h1 | h1
    · exact h.fresh b l h1
    · exact .inr (Nat.le_trans h.next h1)
  next := Nat.le_trans h.next k.next
  os := k.os.trans h.os
  tape := k.tape.trans h.tape
  output := k.output.trans h.output

/-- Everything below the base is as it was. -/
theorem Step.below {E : Env} {base : Nat} {ρ ρ' : Place} {M M' : Mem} {w w' : World} (h : Step E base ρ w M ρ' w' M') (hc : Cons E base ρ M w) (hb : base ≤ w.heap.size) :
    RowKit.Below base w w' :=
  ⟨h.os, h.tape, h.output, h.size, fun k hk => h.frame k (Nat.lt_of_lt_of_le hk hb) fun b x l _ hl e => by have := hc.low b l hl; omega⟩

/-- Two worlds that have the same memory. -/
theorem Cons.of_heap {E : Env} {base : Nat} {ρ : Place} {M : Mem} {w w' : World} (h : Cons E base ρ M w) (hh : w'.heap = w.heap) : Cons E base ρ M w' where
  blk b x hx := let ⟨l, hl, hb⟩ := h.blk b x hx; ⟨l, hl, hb.congr (by rw [hh])⟩
  inj := h.inj
  bound := h.bound
  low := h.low
  glob := h.glob.mono fun k _ => by rw [hh]
  sym := h.sym

theorem Step.drawn {E : Env} {base : Nat} {ρ : Place} {M : Mem} {w w' : World} (h : Cons E base ρ M w) (hh : w'.heap = w.heap) (h1 : w'.os = w.os) (h2 : w'.tape = w.tape) (h3 : w'.output = w.output) :
    Step E base ρ w M ρ w' M where
  ext := .refl ρ
  cons := h.of_heap hh
  frame _ _ _ := by rw [hh]
  size := by rw [hh]; exact Nat.le_refl _
  img b x l hb hl := .inr ⟨b, x, l, hb, hl, rfl⟩
  fresh _ _ h := .inl h
  next := Nat.le_refl _
  os := h1
  tape := h2
  output := h3

def Place.upd (ρ : Place) (b : Nat) (l : Loc) : Place := fun c => if c = b then some l else ρ c

theorem Place.upd_same (ρ : Place) (b : Nat) (l : Loc) : ρ.upd b l b = some l := by simp [Place.upd]
theorem Place.upd_other (ρ : Place) (b c : Nat) (l : Loc) (h : c ≠ b) : ρ.upd b l c = ρ c := by simp [Place.upd, h]
theorem Place.le_upd {ρ : Place} {b : Nat} {l : Loc} (h : ρ b = none) : ρ.le (ρ.upd b l) := by
  intro c m hc
  by_cases e : c = b
  · subst e; rw [h] at hc; cases hc
  · rw [Place.upd_other _ _ _ _ e]; exact hc

/-- A new block. -/
theorem Cons.push {E : Env} {base : Nat} {ρ : Place} {M : Mem} {w w' : World} (hc : Cons E base ρ M w) (hbase : base ≤ w.heap.size) {b next : Nat} {x : AB} {l : Loc}
    (hb : ρ b = none) (hM : M.next ≤ next) (hbn : b < next) (hl : l.blk = w.heap.size)
    (hold : ∀ k, k < w.heap.size → w'.heap[k]? = w.heap[k]?)
    (hx : BR (ρ.upd b l) l x w') : Cons E base (ρ.upd b l) ⟨next, M.bl.set b x⟩ w' where
  blk c y hy := by
    simp only [T.get_set] at hy
    by_cases e : c = b
    · subst e
      rw [if_pos rfl, Option.some.injEq] at hy
      subst hy
      exact ⟨l, Place.upd_same _ _ _, hx⟩
    · rw [if_neg e] at hy
      obtain ⟨m, hm, hbr⟩ := hc.blk c y hy
      exact ⟨m, by rw [Place.upd_other _ _ _ _ e]; exact hm, (hbr.mono (Place.le_upd hb)).congr (hold _ hbr.here)⟩
  inj c c' y y' m m' hy hy' hm hm' he := by
    simp only [T.get_set] at hy hy'
    by_cases e : c = b <;> by_cases e' : c' = b
    · rw [e, e']
    · exfalso
      subst e
      rw [if_neg e'] at hy'
      rw [Place.upd_same, Option.some.injEq] at hm
      rw [Place.upd_other _ _ _ _ e'] at hm'
      obtain ⟨m2, hm2, hbr⟩ := hc.blk c' y' hy'
      rw [hm', Option.some.injEq] at hm2
      have := hbr.here
      rw [← hm2, ← he, ← hm, hl] at this
      omega
    · exfalso
      subst e'
      rw [if_neg e] at hy
      rw [Place.upd_same, Option.some.injEq] at hm'
      rw [Place.upd_other _ _ _ _ e] at hm
      obtain ⟨m2, hm2, hbr⟩ := hc.blk c y hy
      rw [hm, Option.some.injEq] at hm2
      have := hbr.here
      rw [← hm2, he, ← hm', hl] at this
      omega
    · rw [if_neg e] at hy
      rw [if_neg e'] at hy'
      rw [Place.upd_other _ _ _ _ e] at hm
      rw [Place.upd_other _ _ _ _ e'] at hm'
      exact hc.inj c c' y y' m m' hy hy' hm hm' he
  bound c m hm := by
    by_cases e : c = b
    · subst e; exact hbn
    · rw [Place.upd_other _ _ _ _ e] at hm
      exact Nat.lt_of_lt_of_le (hc.bound c m hm) hM
  low c m hm := by
    by_cases e : c = b
    · subst e
      rw [Place.upd_same, Option.some.injEq] at hm
      rw [← hm, hl]; exact hbase
    · rw [Place.upd_other _ _ _ _ e] at hm
      exact hc.low c m hm
  glob := hc.glob.mono fun k hk => hold k (Nat.lt_of_lt_of_le hk hbase)
  sym := hc.sym.trans (Place.le_upd hb)

theorem Step.push {E : Env} {base : Nat} {ρ : Place} {M : Mem} {w w' : World} (hc : Cons E base ρ M w) (hbase : base ≤ w.heap.size) {b next : Nat} {x : AB} {l : Loc}
    (hb : ρ b = none) (hM : M.next ≤ next) (hbn : b < next) (hbM : M.next ≤ b) (hl : l.blk = w.heap.size)
    (hsz : w'.heap.size = w.heap.size + 1) (hold : ∀ k, k < w.heap.size → w'.heap[k]? = w.heap[k]?)
    (hx : BR (ρ.upd b l) l x w') (h1 : w'.os = w.os) (h2 : w'.tape = w.tape) (h3 : w'.output = w.output) :
    Step E base ρ w M (ρ.upd b l) w' ⟨next, M.bl.set b x⟩ where
  ext := Place.le_upd hb
  cons := hc.push hbase hb hM hbn hl hold hx
  frame k hk _ := hold k hk
  size := by omega
  img c y m hy hm := by
    simp only [T.get_set] at hy
    by_cases e : c = b
    · subst e
      rw [Place.upd_same, Option.some.injEq] at hm
      exact .inl (by rw [← hm, hl]; exact Nat.le_refl _)
    · rw [if_neg e] at hy
      rw [Place.upd_other _ _ _ _ e] at hm
      exact .inr ⟨c, y, m, hy, hm, rfl⟩
  fresh c m hm := by
    by_cases e : c = b
    · subst e; exact .inr hbM
    · rw [Place.upd_other _ _ _ _ e] at hm; exact .inl hm
  next := hM
  os := h1
  tape := h2
  output := h3

/-- A block is overwritten where it lies. -/
theorem Step.over {E : Env} {base : Nat} {ρ : Place} {M : Mem} {w w' : World} (hc : Cons E base ρ M w) {b : Nat} {x y : AB} {l : Loc}
    (hx : M.bl.get b = some x) (hl : ρ b = some l) (hsz : w'.heap.size = w.heap.size) (hold : ∀ k, k ≠ l.blk → w'.heap[k]? = w.heap[k]?)
    (hy : BR ρ l y w') (h1 : w'.os = w.os) (h2 : w'.tape = w.tape) (h3 : w'.output = w.output) :
    Step E base ρ w M ρ w' ⟨M.next, M.bl.set b y⟩ where
  ext := .refl ρ
  cons := {
    blk := fun c z hz => by
      simp only [T.get_set] at hz
      by_cases e : c = b
      · subst e
        rw [if_pos rfl, Option.some.injEq] at hz
        subst hz
        exact ⟨l, hl, hy⟩
      · rw [if_neg e] at hz
        obtain ⟨m, hm, hbr⟩ := hc.blk c z hz
        refine ⟨m, hm, hbr.congr (hold _ fun he => e ?_)⟩
        exact hc.inj c b z x m l hz hx hm hl he
    inj := fun c c' z z' m m' hz hz' hm hm' he => by
      simp only [T.get_set] at hz hz'
      have : ∃ z, M.bl.get c = some z := by
        by_cases e : c = b
        · subst e; exact ⟨x, hx⟩
        · rw [if_neg e] at hz; exact ⟨z, hz⟩
      obtain ⟨u, hu⟩ := this
      have : ∃ z, M.bl.get c' = some z := by
        by_cases e : c' = b
        · subst e; exact ⟨x, hx⟩
        · rw [if_neg e] at hz'; exact ⟨z', hz'⟩
      obtain ⟨u', hu'⟩ := this
      exact hc.inj c c' u u' m m' hu hu' hm hm' he
    bound := hc.bound
    low := hc.low
    glob := hc.glob.mono fun k hk => hold k (by have := hc.low b l hl; omega)
    sym := hc.sym }
  frame k hk hn := hold k fun e => hn b x l hx hl e.symm
  size := by omega
  img c z m hz hm := by
    simp only [T.get_set] at hz
    by_cases e : c = b
    · subst e
      exact .inr ⟨c, x, m, hx, hm, rfl⟩
    · rw [if_neg e] at hz
      exact .inr ⟨c, z, m, hz, hm, rfl⟩
  fresh c m hm := .inl hm
  next := Nat.le_refl _
  os := h1
  tape := h2
  output := h3

/-- A block is overwritten where it lies, and has a new name. -/
theorem Step.turn {E : Env} {base : Nat} {ρ : Place} {M : Mem} {w w' : World} (hc : Cons E base ρ M w) {b c next : Nat} {x y : AB} {l m : Loc}
    (hx : M.bl.get b = some x) (hl : ρ b = some l) (hcρ : ρ c = none) (hcM : M.next ≤ c) (hcn : c < next) (hm : m.blk = l.blk) (hsz : w'.heap.size = w.heap.size)
    (hold : ∀ k, k ≠ l.blk → w'.heap[k]? = w.heap[k]?)
    (hy : BR (ρ.upd c m) m y w') (h1 : w'.os = w.os) (h2 : w'.tape = w.tape) (h3 : w'.output = w.output) :
    Step E base ρ w M (ρ.upd c m) w' ⟨next, (M.bl.del b).set c y⟩ where
  ext := Place.le_upd hcρ
  cons := {
    blk := fun d z hz => by
      simp only [T.get_set, T.get_del] at hz
      by_cases e : d = c
      · subst e
        rw [if_pos rfl, Option.some.injEq] at hz
        subst hz
        exact ⟨m, Place.upd_same _ _ _, hy⟩
      · rw [if_neg e] at hz
        by_cases e2 : d = b
        · rw [if_pos e2] at hz; cases hz
        · rw [if_neg e2] at hz
          obtain ⟨n, hn, hbr⟩ := hc.blk d z hz
          refine ⟨n, by rw [Place.upd_other _ _ _ _ e]; exact hn, (hbr.mono (Place.le_upd hcρ)).congr (hold _ fun he => e2 ?_)⟩
          exact hc.inj d b z x n l hz hx hn hl he
    inj := fun d d' z z' n n' hz hz' hn hn' he => by
      simp only [T.get_set, T.get_del] at hz hz'
      have key : ∀ d z n, (if d = c then some y else if d = b then none else M.bl.get d) = some z → ρ.upd c m d = some n →
          (d = c ∧ n.blk = l.blk) ∨ (d ≠ c ∧ d ≠ b ∧ M.bl.get d = some z ∧ ρ d = some n) := by
        intro d z n hz hn
        by_cases e : d = c
        · subst e
          rw [Place.upd_same, Option.some.injEq] at hn
          exact .inl ⟨rfl, by rw [← hn, hm]⟩
        · rw [if_neg e] at hz
          rw [Place.upd_other _ _ _ _ e] at hn
          by_cases e2 : d = b
          · rw [if_pos e2] at hz; cases hz
          · rw [if_neg e2] at hz
            exact .inr ⟨e, e2, hz, hn⟩
      rcases key d z n hz hn with ⟨a1, a2⟩ | ⟨a1, a2, a3, a4⟩ <;> rcases key d' z' n' hz' hn' with ⟨b1, b2⟩ | ⟨b1, b2, b3, b4⟩
      · rw [a1, b1]
      · exact absurd (hc.inj b d' x z' l n' hx b3 hl b4 (by rw [← he, a2])) (fun e => b2 e.symm)
      · exact absurd (hc.inj d b z x n l a3 hx a4 hl (by rw [he, b2])) a2
      · exact hc.inj d d' z z' n n' a3 b3 a4 b4 he
    bound := fun d n hn => by
      by_cases e : d = c
      · subst e; exact hcn
      · rw [Place.upd_other _ _ _ _ e] at hn
        show d < next
        have := hc.bound d n hn
        omega
    low := fun d n hn => by
      by_cases e : d = c
      · subst e
        rw [Place.upd_same, Option.some.injEq] at hn
        rw [← hn, hm]; exact hc.low b l hl
      · rw [Place.upd_other _ _ _ _ e] at hn
        exact hc.low d n hn
    glob := hc.glob.mono fun k hk => hold k (by have := hc.low b l hl; omega)
    sym := hc.sym.trans (Place.le_upd hcρ) }
  frame k hk hn := hold k fun e => hn b x l hx hl e.symm
  size := by omega
  img d z n hz hn := by
    simp only [T.get_set, T.get_del] at hz
    by_cases e : d = c
    · subst e
      rw [Place.upd_same, Option.some.injEq] at hn
      exact .inr ⟨b, x, l, hx, hl, by rw [← hn, hm]⟩
    · rw [if_neg e] at hz
      rw [Place.upd_other _ _ _ _ e] at hn
      by_cases e2 : d = b
      · rw [if_pos e2] at hz; cases hz
      · rw [if_neg e2] at hz
        exact .inr ⟨d, z, n, hz, hn, rfl⟩
  fresh d n hn := by
    by_cases e : d = c
    · subst e; exact .inr hcM
    · rw [Place.upd_other _ _ _ _ e] at hn; exact .inl hn
  next := by show M.next ≤ next; omega
  os := h1
  tape := h2
  output := h3

end Go.Proofs.YtiamenedboifeabGreatDoor.Rx

/- A reflective evaluator of the model's code, part C: frames; operations that only read. -/
import Derived.Test.YtiamenedboifeabGreatDoorRxB
import Derived.Laws.Sem
import Derived.Laws.World
import Derived.Laws.Entries
import Derived.Laws.Cells
import Derived.Deep.MidRow
import Derived.Laws.Build
namespace Go.Proofs.YtiamenedboifeabGreatDoor.Rx

def opd (F : T AV) : Operand → AV
  | .tmp t => match F.get t with
    | some v => v
    | none => .unk
  | .const v => .lit v
  | .global g => .lit (.pointer (some ⟨g, 0, none⟩))
  | .func f => .lit (.func (.func f) #[] #[])

structure FR (ρ : Place) (F : T AV) (n : Nat) (a : Act) : Prop where
  size : a.tmps.size = n
  get : ∀ t, VR ρ (opd F (.tmp t)) (a.tmps.getD t undef)

theorem FR.eval {ρ : Place} {F : T AV} {n : Nat} {a : Act} (h : FR ρ F n a) (x : Operand) : VR ρ (opd F x) (a.eval x) := by
  cases x with
  | tmp t => exact h.get t
  | const v => simp [opd, VR, Act.eval]
  | global g => simp [opd, VR, Act.eval]
  | func f => simp [opd, VR, Act.eval]

theorem FR.mono {ρ ρ' : Place} {F : T AV} {n : Nat} {a : Act} (h : FR ρ F n a) (k : ρ.le ρ') : FR ρ' F n a :=
  ⟨h.size, fun t => (h.get t).mono k⟩

theorem FR.evals {ρ : Place} {F : T AV} {n : Nat} {a : Act} (h : FR ρ F n a) : ∀ (l : List Operand), VRs ρ (l.map (opd F)) (l.map a.eval)
  | [] => by simp [VRs]
  | x :: xs => by
    simp only [List.map_cons, VRs]
    exact ⟨_, _, rfl, h.eval x, FR.evals h xs⟩

def put (F : T AV) (n : Nat) (dst : Option Tmp) (v : AV) : Option (T AV) :=
  match dst with
  | none => some F
  | some d => cond (Nat.blt d n) (some (F.set d v)) none

theorem FR.put {ρ : Place} {F F' : T AV} {n : Nat} {a : Act} (h : FR ρ F n a) {dst : Option Tmp} {v : AV} {x : Value} (hv : VR ρ v x)
    (hp : put F n dst v = some F') : FR ρ F' n (a.put dst x) := by
  cases dst with
  | none => simp only [Rx.put, Option.some.injEq] at hp; subst hp; exact h
  | some d =>
    simp only [Rx.put] at hp
    cases hd : Nat.blt d n with
    | false => rw [hd] at hp; simp at hp
    | true =>
      rw [hd] at hp
      simp only [cond_true, Option.some.injEq] at hp
      subst hp
      have hlt : d < n := by simpa [Nat.blt_eq] using hd
      refine ⟨by simp [Act.put, h.size], fun t => ?_⟩
      simp only [opd, T.get_set, Act.put, Array.getD_eq_getD_getElem?, Array.getElem?_setIfInBounds, h.size]
      by_cases e : t = d
      · subst e
        simp [hlt, hv]
      · have e' : ¬ d = t := fun k => e k.symm
        simp only [e, e', if_false]
        have := h.get t
        simpa [opd, Array.getD_eq_getD_getElem?] using this

/-! Operations whose operands are all literal. -/

def litEv (F : T AV) (x : Operand) : Value :=
  match (opd F x).lit? with
  | some v => v
  | none => undef

def allLit (F : T AV) : List Operand → Bool
  | [] => true
  | x :: xs => match (opd F x).lit? with
    | some _ => allLit F xs
    | none => false

theorem allLit_eval {ρ : Place} {F : T AV} {n : Nat} {a : Act} (h : FR ρ F n a) : ∀ (l : List Operand), allLit F l = true → ∀ x ∈ l, litEv F x = a.eval x
  | [], _, x, hx => by simp at hx
  | y :: ys, hl, x, hx => by
    simp only [allLit] at hl
    split at hl
    · rename_i v hv
      rcases List.mem_cons.1 hx with rfl | hx
      · simp only [litEv, hv]
        exact ((h.eval x).lit _ _ _ hv).symm
      · exact allLit_eval h ys hl x hx
    · cases hl

def noSel : Op → Bool
  | .select .. => false
  | _ => true

def litOp (P : Program) (F : T AV) (o : Oper) : Option AV :=
  match noSel o.op with
  | true => match allLit F o.op.operands.toList with
    | true => match pureRun P (execOp (litEv F) o) with
      | some (.value v) => some (.lit v)
      | _ => none
    | false => none
  | false => none

theorem litOp_ok {P : Program} {ρ : Place} {F : T AV} {n : Nat} {a : Act} (h : FR ρ F n a) {o : Oper} {v : AV} (hl : litOp P F o = some v) (w : World) :
    ∃ x, (execOp a.eval o).run P w = .ok (.value x) w ∧ VR ρ v x := by
  unfold litOp at hl
  split at hl
  · rename_i hs
    split at hl
    · rename_i ha
      split at hl
      · rename_i x hx
        simp only [Option.some.injEq] at hl
        subst hl
        have he : execOp a.eval o = execOp (litEv F) o := execOp_congr o (fun cs b e => by rw [e] at hs; simp [noSel] at hs)
          fun y hy => (allLit_eval h _ ha y (by simpa using hy)).symm
        rw [he]
        exact ⟨x, pureRun_run _ _ hx w, by simp [VR]⟩
      · cases hl
    · cases hl
  · cases hl

/-! Memory that is read. -/

def cellsFrom (cs : T AV) : Nat → Nat → List AV
  | _, 0 => []
  | off, n + 1 => cellOf cs off :: cellsFrom cs (off + 1) n

theorem cellsFrom_length (cs : T AV) : ∀ (n off : Nat), (cellsFrom cs off n).length = n
  | 0, _ => rfl
  | n + 1, off => by simp [cellsFrom, cellsFrom_length cs n]

theorem cellsFrom_get (cs : T AV) : ∀ (n off i : Nat), i < n → (cellsFrom cs off n)[i]? = some (cellOf cs (off + i))
  | 0, _, _, h => by omega
  | n + 1, off, 0, _ => by simp [cellsFrom]
  | n + 1, off, i + 1, h => by
    simp only [cellsFrom, List.getElem?_cons_succ]
    rw [cellsFrom_get cs n (off + 1) i (by omega)]
    rw [show off + 1 + i = off + (i + 1) from by omega]

def readA (M : Mem) (b off n : Nat) : Option (List AV) :=
  match M.bl.get b with
  | some (.cells _ m cs _ _ _) => cond (Nat.ble (off + n) m) (some (cellsFrom cs off n)) none
  | _ => none

theorem choose_vals {α : Type} {p : Nat → α → Prop} : ∀ (n : Nat), (∀ i, i < n → ∃ v, p i v) → ∃ l : List α, l.length = n ∧ ∀ i v, l[i]? = some v → p i v
  | 0, _ => ⟨[], rfl, fun i v h => by simp at h⟩
  | n + 1, h => by
    obtain ⟨l, hl, hp⟩ := choose_vals n (fun i hi => h i (by omega))
    obtain ⟨v, hv⟩ := h n (by omega)
    refine ⟨l ++ [v], by simp [hl], fun i x hx => ?_⟩
    by_cases hi : i < l.length
    · rw [List.getElem?_append_left hi] at hx
      exact hp i x hx
    · rw [List.getElem?_append_right (by omega)] at hx
      have : i - l.length = 0 := by
        rcases Nat.eq_zero_or_pos (i - l.length) with e | e
        · exact e
        · rw [List.getElem?_eq_none (by simp; omega)] at hx; cases hx
      rw [this] at hx
      simp at hx
      subst hx
      have : i = n := by omega
      subst this
      exact hv

theorem readA_ok {E : Env} {base : Nat} {ρ : Place} {M : Mem} {w : World} (hc : Cons E base ρ M w) {b off n : Nat} {vs : List AV} (h : readA M b off n = some vs) :
    ∃ l xs, ρ b = some l ∧ xs.length = n ∧ VRs ρ vs xs ∧ w.rangeAt l.blk (l.off + off) xs := by
  unfold readA at h
  split at h
  · rename_i e m cs row fz back hb
    cases hle : Nat.ble (off + n) m with
    | false => rw [hle] at h; simp at h
    | true =>
      rw [hle] at h
      simp only [cond_true, Option.some.injEq] at h
      subst h
      have hle' : off + n ≤ m := by simpa [Nat.ble_eq] using hle
      obtain ⟨l, hl, arr, lo, hi, h1, _, h2, h3, h4, h5, h6, h7⟩ := hc.blk b _ hb
      obtain ⟨xs, hx1, hx2⟩ := choose_vals (p := fun i v => arr[l.off + (off + i)]? = some v ∧ VR ρ (cellOf cs (off + i)) v) n (fun i hi => h5 (off + i) (by omega))
      refine ⟨l, xs, hl, hx1, VRs.of_get (by rw [cellsFrom_length, hx1]) fun i x v hxi hvi => ?_, fun j v hj => ?_⟩
      · have hlt : i < n := by
          rcases Nat.lt_or_ge i n with h | h
          · exact h
          · rw [List.getElem?_eq_none (by omega)] at hvi; cases hvi
        rw [cellsFrom_get cs n off i hlt, Option.some.injEq] at hxi
        rw [← hxi]
        exact (hx2 i v hvi).2
      · have := (hx2 j v hj).1
        simp only [World.cell?, h1]
        rw [show l.off + off + j = l.off + (off + j) from by omega]
        simpa using this
  · cases h

def readG (E : Env) (g : Nat) : Nat → Nat → Option (List AV)
  | _, 0 => some []
  | off, n + 1 => match E.gcell g off with
    | some v => match readG E g (off + 1) n with
      | some l => some (.lit v :: l)
      | none => none
    | none => none

theorem readG_ok {E : Env} {base : Nat} {ρ : Place} {M : Mem} {w : World} (hc : Cons E base ρ M w) (g : Nat) : ∀ (n off : Nat) (vs : List AV), readG E g off n = some vs →
    ∃ xs, xs.length = n ∧ VRs ρ vs xs ∧ w.rangeAt g off xs
  | 0, off, vs, h => by
    simp only [readG, Option.some.injEq] at h
    subst h
    exact ⟨[], rfl, by simp [VRs], fun j v hj => by simp at hj⟩
  | n + 1, off, vs, h => by
    simp only [readG] at h
    split at h
    · rename_i v hv
      split at h
      · rename_i l hl
        simp only [Option.some.injEq] at h
        subst h
        obtain ⟨xs, h1, h2, h3⟩ := readG_ok hc g n (off + 1) l hl
        refine ⟨v :: xs, by simp [h1], ?_, fun j u hj => ?_⟩
        · simp only [VRs]
          exact ⟨v, xs, rfl, by simp [VR], h2⟩
        · cases j with
          | zero =>
            simp at hj
            subst hj
            simpa using (hc.glob.1 g off v hv).2
          | succ j =>
            simp at hj
            have := h3 j u hj
            rwa [show off + 1 + j = off + (j + 1) from by omega] at this
      · cases h
    · cases h

/-- What lies at an abstract address. -/
def readAt (E : Env) (M : Mem) (p : AV) (n : Nat) : Option (List AV) :=
  match p with
  | .ptr b off => readA M b off n
  | .lit (.pointer (some ⟨g, off, none⟩)) => readG E g off n
  | _ => none

theorem readAt_ok {E : Env} {base : Nat} {ρ : Place} {M : Mem} {w : World} (hc : Cons E base ρ M w) {p : AV} {x : Value} (hp : VR ρ p x) {n : Nat} {vs : List AV}
    (h : readAt E M p n = some vs) : ∃ b o xs, x = .pointer (some ⟨b, o, none⟩) ∧ xs.length = n ∧ VRs ρ vs xs ∧ w.rangeAt b o xs := by
  unfold readAt at h
  split at h
  · rename_i b off
    simp only [VR] at hp
    obtain ⟨l, hl, hx⟩ := hp
    obtain ⟨l', xs, h1, h2, h3, h4⟩ := readA_ok hc h
    rw [hl, Option.some.injEq] at h1
    subst h1
    exact ⟨_, _, xs, hx, h2, h3, h4⟩
  · rename_i g off
    simp only [VR] at hp
    obtain ⟨xs, h2, h3, h4⟩ := readG_ok hc g n off vs h
    exact ⟨_, _, xs, hp, h2, h3, h4⟩
  · cases h

def isRow : TypeDesc → Bool
  | .struct _ | .array _ _ => true
  | _ => false

theorem isRow_eq (d : TypeDesc) : isRow d = d.isRow := by cases d <;> rfl

theorem run_isAgg {P : Program} {t : TypeId} {d : TypeDesc} (h : P.underlying t = some d) (w : World) : (isAgg t).run P w = .ok (isRow d) w := by
  unfold isAgg
  rw [Sem.run_bind, run_underlying h w]
  cases d <;> rfl

theorem run_typeInfo' {P : Program} {t : TypeId} {i : TypeInfo} (h : P.info? t = some i) (w : World) : (typeInfo t).run P w = .ok i w := by
  simp [typeInfo, h]

theorem run_sizeOf {P : Program} {t : TypeId} {i : TypeInfo} (h : P.info? t = some i) (w : World) : (sizeOf t).run P w = .ok i.size w := by
  simp [sizeOf, run_typeInfo' h]

theorem run_zeroValue {P : Program} {t : TypeId} {i : TypeInfo} {z : Value} (h : P.info? t = some i) (hz : i.zero = some z) (w : World) : (zeroValue t).run P w = .ok z w := by
  simp [zeroValue, run_typeInfo' h, hz]

def loadA (E : Env) (M : Mem) (t : TypeId) (p : AV) : Option AV :=
  match E.P.underlying t with
  | some d => match isRow d with
    | true => match E.P.info? t with
      | some i => match readAt E M p i.size with
        | some vs => some (.agg vs)
        | none => none
      | none => none
    | false => match readAt E M p 1 with
      | some [v] => some v
      | _ => none
  | none => none

theorem loadA_ok {E : Env} {base : Nat} {ρ : Place} {M : Mem} {w : World} (hc : Cons E base ρ M w) {t : TypeId} {p v : AV} {x : Value} (hp : VR ρ p x)
    (h : loadA E M t p = some v) : ∃ y, (Instr.loadAt t x).run E.P w = .ok y w ∧ VR ρ v y := by
  unfold loadA at h
  split at h
  · rename_i d hd
    split at h
    · rename_i hr
      split at h
      · rename_i i hi
        split at h
        · rename_i vs hvs
          simp only [Option.some.injEq] at h
          subst h
          obtain ⟨b, o, xs, rfl, h2, h3, h4⟩ := readAt_ok hc hp hvs
          refine ⟨.agg xs.toArray, run_loadAt_mid w b o t xs d h4 hd (by rw [← isRow_eq]; exact hr) (by simp [hi, h2]), ?_⟩
          simp only [VR]
          exact ⟨_, rfl, by simpa using h3⟩
        · cases h
      · cases h
    · rename_i hr
      split at h
      · rename_i u hvs
        simp only [Option.some.injEq] at h
        subst h
        obtain ⟨b, o, xs, rfl, h2, h3, h4⟩ := readAt_ok hc hp hvs
        simp only [VRs] at h3
        obtain ⟨y, ys, rfl, h5, rfl⟩ := h3
        refine ⟨y, ?_, h5⟩
        have hcell := h4 0 y (by simp)
        simp only [Nat.add_zero] at hcell
        simp only [Instr.loadAt, Instr.sureAddr, Sem.run_bind, Sem.run_pure, Result.andThen_ok, loadVar, run_isAgg hd, hr]
        simp [hcell]
      · cases h
  · cases h

/-- A part of a composite. -/
def partA (P : Program) (t : TypeId) (cs : List AV) (off : Nat) : Option AV :=
  match P.underlying t with
  | some d => match isRow d with
    | true => match P.info? t with
      | some i => some (.agg ((cs.drop off).take i.size))
      | none => none
    | false => cs[off]?
  | none => none

theorem VRs.take {ρ : Place} : ∀ {a : List AV} {w : List Value} (n : Nat), VRs ρ a w → VRs ρ (a.take n) (w.take n)
  | _, _, 0, _ => by simp [VRs]
  | [], w, n + 1, h => by simp only [VRs] at h; subst h; simp [VRs]
  | a :: as, w, n + 1, h => by
    simp only [VRs] at h
    obtain ⟨x, xs, rfl, h2, h3⟩ := h
    simp only [List.take_succ_cons, VRs]
    exact ⟨_, _, rfl, h2, VRs.take n h3⟩

theorem VRs.drop {ρ : Place} : ∀ {a : List AV} {w : List Value} (n : Nat), VRs ρ a w → VRs ρ (a.drop n) (w.drop n)
  | _, _, 0, h => by simpa using h
  | [], w, n + 1, h => by simp only [VRs] at h; subst h; simp [VRs]
  | a :: as, w, n + 1, h => by
    simp only [VRs] at h
    obtain ⟨x, xs, rfl, h2, h3⟩ := h
    simpa using VRs.drop n h3

theorem partA_ok {P : Program} {ρ : Place} {t : TypeId} {cs : List AV} {xs : Array Value} (hx : VRs ρ cs xs.toList) {off : Nat} {v : AV} (h : partA P t cs off = some v) (w : World) :
    ∃ y, (part t xs off).run P w = .ok y w ∧ VR ρ v y := by
  unfold partA at h
  split at h
  · rename_i d hd
    split at h
    · rename_i hr
      split at h
      · rename_i i hi
        simp only [Option.some.injEq] at h
        subst h
        refine ⟨.agg (xs.extract off (off + i.size)), ?_, ?_⟩
        · simp [part, run_isAgg hd, hr, run_sizeOf hi]
        · simp only [VR]
          refine ⟨_, rfl, ?_⟩
          have := (hx.drop off).take i.size
          rw [Array.toList_extract]
          simpa [List.extract_eq_take_drop] using this
      · cases h
    · rename_i hr
      obtain ⟨y, hy, hv⟩ := hx.get off v h
      refine ⟨y, ?_, hv⟩
      have hy' : xs[off]? = some y := by simpa using hy
      simp [part, run_isAgg hd, hr, hy']
  · cases h

end Go.Proofs.YtiamenedboifeabGreatDoor.Rx

/- A reflective evaluator of the model's code, part I: what single operations do, put together. -/
import Derived.Test.YtiamenedboifeabGreatDoorRxH
import Derived.Test.YtiamenedboifeabGreatDoorRxE
import Derived.Test.YtiamenedboifeabGreatDoorRxX
import Derived.Laws.StructEq
namespace Go.Proofs.YtiamenedboifeabGreatDoor.Rx
open Go.Instr

def extSem (bt : TypeId) : Nat → Array Value → Sem Value
  | 0 => Extern.AbiNoEscape.same
  | 1 => Extern.MathFloatBits.float64bits
  | 2 => Extern.MathFloatBits.float64frombits
  | 3 => Extern.BytealgIndexByte.indexByte
  | 4 => Extern.BytealgCount.count
  | 5 => Extern.BytealgMakeNoZero.makeNoZero #[] #[bt]
  | 6 => Extern.MathFloatBits.float32bits
  | 7 => Extern.MathFloatBits.float32frombits
  | 8 => Extern.MathFloor.toIntegral "math.archFloor" .down
  | 9 => Extern.MathFloor.toIntegral "math.archCeil" .up
  | 10 => Extern.MathFloor.toIntegral "math.archTrunc" .zero
  | 11 => Extern.MapsClone.clone
  | _ => fun _ => stuck ""

structure Env.OK (E : Env) : Prop where
  mixed : E.P.follows .mixedOrders = true
  fn : ∀ f fn, E.fn.get f = some fn → E.P.funcs[f]? = some fn ∧ ∀ args w, (callFunc f args).run E.P w = .ok (.enter f args) w
  ext : ∀ f k, E.ext.get f = some k → ∀ args w, (callFunc f args).run E.P w = ((do pure (.value (← extSem E.bt k args))) : Sem Next).run E.P w
  con : ∀ f args v, E.con f args = some v → ∀ (base : Nat) (ρ : Place) (w : World) (vals : List Value), E.Still base w → E.sy.le ρ → base ≤ w.heap.size → VRs ρ args vals →
    Calls E.P f vals.toArray w fun e w' => ∃ x, e = .returned x ∧ VR ρ v x ∧ RowKit.Below w.heap.size w w'
  ty : ∀ k t, E.tys.get k = some t → ∃ l, E.sy k = some l ∧ hasTy l.val t = true
  fact : ∀ f ∈ E.facts, f.1.ev E.sy = some (.bool f.2)
  opc : ∀ op g v, E.opc op g = some v → ∀ (base : Nat) (ρ : Place) (w : World) (e : Operand → Value), E.Still base w → E.sy.le ρ → (∀ x, VR ρ (g x) (e x)) →
    ∀ o : Oper, o.op = op → ∃ x, (execOp e o).run E.P w = .ok (.value x) w ∧ VR ρ v x
  opn : ∀ op g v, E.opn op g = some v → ∀ (base : Nat) (ρ : Place) (w : World) (e : Operand → Value), E.Still base w → E.sy.le ρ → (∀ x, VR ρ (g x) (e x)) →
    ∀ o : Oper, o.op = op → ∃ x w', (execOp e o).run E.P w = .ok (.value x) w' ∧ VR ρ v x ∧ w'.heap = w.heap ∧ w'.os = w.os ∧ w'.tape = w.tape ∧ w'.output = w.output

/-! Conversions. -/

def u8s : List AV → Option (List Int)
  | [] => some []
  | .lit (.int .u8 n) :: r => match u8s r with
    | some l => some (n :: l)
    | none => none
  | _ => none

theorem u8s_ok {ρ : Place} : ∀ (a : List AV) (w : List Value) (l : List Int), VRs ρ a w → u8s a = some l → w = l.map (Value.int .u8)
  | [], w, l, h, e => by
    simp only [u8s, Option.some.injEq] at e
    subst e
    simpa [VRs] using h
  | a :: as, w, l, h, e => by
    simp only [VRs] at h
    obtain ⟨x, xs, rfl, h1, h2⟩ := h
    unfold u8s at e
    split at e
    · rename_i heq; cases heq
    · rename_i n r heq
      simp only [List.cons.injEq] at heq
      obtain ⟨rfl, rfl⟩ := heq
      split at e
      · rename_i q hq
        simp only [Option.some.injEq] at e
        subst e
        simp only [VR] at h1
        rw [h1, u8s_ok _ _ _ h2 hq]
        rfl
      · cases e
    · cases e

def strOf (l : List Int) : ByteArray := l.foldl (fun r n => r.push (UInt8.ofNat n.toNat)) ByteArray.empty

def convertA (E : Env) (M : Mem) (s d : TypeId) (x : AV) : Option AV :=
  match x with
  | .slice b off len _ _ => match E.P.underlying s with
    | some (.slice e) => match E.P.underlying e with
      | some (.int .u8) => match E.P.underlying d with
        | some .string => match readA M b off len with
          | some vs => match u8s vs with
            | some l => some (.lit (.string (strOf l)))
            | none => none
          | none => none
        | _ => none
      | _ => none
    | _ => none
  | .ptr b off => match E.P.underlying s with
    | some (.pointer t) => match E.P.underlying d with
      | some .unsafePointer => match E.P.info? t with
        | some i => match M.bl.get b with
          | some (.cells _ n _ _ _ _) => cond (Nat.blt off n && Nat.blt 0 i.size) (some (.ptr b off)) none
          | _ => none
        | none => none
      | _ => none
    | some .unsafePointer => match E.P.underlying d with
      | some (.pointer u) => match E.P.info? u with
        | some _ => match M.bl.get b with
          | some (.cells elem n _ false _ _) => cond (liesAt E.P E.P.depth elem (n / E.P.cellsOf elem) off u 1) (some (.ptr b off)) none
          | _ => none
        | none => none
      | _ => none
    | _ => none
  | _ => none

theorem convertA_ok {E : Env} {base : Nat} {ρ : Place} {M : Mem} {w : World} (hc : Cons E base ρ M w) {s d : TypeId} {x v : AV} {y : Value} (hx : VR ρ x y) (h : convertA E M s d x = some v) :
    ∃ z, (convert s d y).run E.P w = .ok z w ∧ VR ρ v z := by
  unfold convertA at h
  split at h
  · rename_i b off len cap esz
    split at h
    · rename_i e hs
      split at h
      · rename_i he
        split at h
        · rename_i hd
          split at h
          · rename_i vs hvs
            split at h
            · rename_i l hl
              simp only [Option.some.injEq] at h
              subst h
              simp only [VR] at hx
              obtain ⟨lc, c, hlc, rfl, _⟩ := hx
              obtain ⟨l', xs, k1, k2, k3, k4⟩ := readA_ok hc hvs
              rw [hlc, Option.some.injEq] at k1
              subst k1
              have hxs := u8s_ok _ _ _ k3 hl
              refine ⟨.string (strOf l), ?_, by simp [VR]⟩
              rw [run_convert_bytes_string w s d e _ len c hs he hd]
              refine run_bytesToString w _ len c l ?_
              have := run_loadCells_list (P := E.P) w ⟨lc.blk, lc.off + off, none⟩ xs (fun j u hj => by rw [addr_add]; exact k4 j u hj)
              rw [k2] at this
              rw [this, hxs]
            · cases h
          · cases h
        · cases h
      · cases h
    · cases h
  · rename_i b off
    split at h
    · rename_i t hs
      split at h
      · rename_i hd
        split at h
        · rename_i i hi
          split at h
          · rename_i e n cs row fz back hb
            cases hq : (Nat.blt off n && Nat.blt 0 i.size) with
            | false => rw [hq] at h; simp at h
            | true =>
              rw [hq] at h
              simp only [cond_true, Option.some.injEq] at h
              subst h
              simp only [Bool.and_eq_true, Nat.blt_eq] at hq
              have hx0 := hx
              simp only [VR] at hx
              obtain ⟨l, hl, rfl⟩ := hx
              obtain ⟨l', hl', arr, lo, hi', h1, h0, h2, h3, h4, h5, h6, h7⟩ := hc.blk b _ hb
              rw [hl, Option.some.injEq] at hl'
              subst hl'
              have hsh : w.shape? l.blk = some (e, arr.size) := by simp only [World.shape?, h1]
              exact ⟨_, Lib.run_to_unsafe w _ hs hd hi (by omega) hsh (by simp only []; omega), hx0⟩
          · cases h
        · cases h
      · cases h
    · rename_i hs
      split at h
      · rename_i u hd
        split at h
        · rename_i i hi
          split at h
          · rename_i e n cs fz back hb
            cases hq : liesAt E.P E.P.depth e (n / E.P.cellsOf e) off u 1 with
            | false => rw [hq] at h; simp at h
            | true =>
              rw [hq] at h
              simp only [cond_true, Option.some.injEq] at h
              subst h
              have hx0 := hx
              simp only [VR] at hx
              obtain ⟨l, hl, rfl⟩ := hx
              obtain ⟨l', hl', arr, lo, hi', h1, h0, h2, h3, h4, h5, h6, h7⟩ := hc.blk b _ hb
              rw [hl, Option.some.injEq] at hl'
              subst hl'
              have hsh : w.shape? l.blk = some (e, n) := by simp only [World.shape?, h1, h4 rfl]
              exact ⟨_, Lib.run_from_unsafe w _ hs hd hi hsh (by simp only [h0, Nat.zero_add]; exact hq), hx0⟩
          · cases h
        · cases h
      · cases h
    · cases h
  · cases h

/-! Calls that only read. -/

def lits : List AV → Option (List Value)
  | [] => some []
  | a :: as => match a.lit? with
    | some v => match lits as with
      | some vs => some (v :: vs)
      | none => none
    | none => none

theorem lits_ok {ρ : Place} : ∀ (a : List AV) (w l : List Value), VRs ρ a w → lits a = some l → w = l
  | [], w, l, h, e => by simp only [lits, Option.some.injEq] at e; subst e; simpa [VRs] using h
  | a :: as, w, l, h, e => by
    simp only [VRs] at h
    obtain ⟨x, xs, rfl, h1, h2⟩ := h
    simp only [lits] at e
    split at e
    · rename_i v hv
      split at e
      · rename_i vs hvs
        simp only [Option.some.injEq] at e
        subst e
        rw [h1.lit _ _ _ hv, lits_ok _ _ _ h2 hvs]
      · cases e
    · cases e

def extQ (E : Env) (k : Nat) (args : List AV) : Option AV :=
  match k with
  | 0 => match args with
    | [x] => some x
    | _ => none
  | _ => match lits args with
    | some l => match pureRun E.P (extSem E.bt k l.toArray) with
      | some v => some (.lit v)
      | none => none
    | none => none

theorem extQ_ok {E : Env} {ρ : Place} {k : Nat} {args : List AV} {xs : List Value} {v : AV} (hx : VRs ρ args xs) (h : extQ E k args = some v) (w : World) :
    ∃ z, ((do pure (.value (← extSem E.bt k xs.toArray))) : Sem Next).run E.P w = .ok (.value z) w ∧ VR ρ v z := by
  unfold extQ at h
  split at h
  · split at h
    · rename_i x
      simp only [Option.some.injEq] at h
      subst h
      simp only [VRs] at hx
      obtain ⟨y, ys, rfl, h1, rfl⟩ := hx
      exact ⟨y, rfl, h1⟩
    · cases h
  · split at h
    · rename_i l hl
      split at h
      · rename_i y hy
        simp only [Option.some.injEq] at h
        subst h
        rw [lits_ok _ _ _ hx hl]
        exact ⟨y, by simp only [Sem.run_bind, pureRun_run _ _ hy w, Result.andThen_ok, Sem.run_pure], by simp [VR]⟩
      · cases h
    · cases h

def callQ (E : Env) (F : T AV) (c : Call) : Option AV :=
  match c.callee with
  | .builtin .len => match c.argTypes[0]? with
    | some t => match E.P.underlying t with
      | some (.slice _) => match c.args.toList.map (opd F) with
        | [.slice _ _ len _ _] => some (.lit (.int .i64 len))
        | [.eslice] => some (.lit (.int .i64 0))
        | _ => none
      | _ => none
    | none => none
  | .builtin .cap => match c.argTypes[0]? with
    | some t => match E.P.underlying t with
      | some (.slice _) => match c.args.toList.map (opd F) with
        | [.slice _ _ _ (some n) _] => some (.lit (.int .i64 n))
        | _ => none
      | _ => none
    | none => none
  | .builtin .unsafeSliceData => match c.args.toList.map (opd F) with
    | [.slice b off (_ + 1) none _] => some (.ptr b off)
    | [.slice b off _ (some (_ + 1)) _] => some (.ptr b off)
    | _ => none
  | .value (.func f) => match E.ext.get f with
    | some k => extQ E k (c.args.toList.map (opd F))
    | none => none
  | _ => none

theorem exec_builtin {P : Program} {ρ : Operand → Value} {c : Call} {b : Builtin} {o : Oper} (ho : o.op = .call c) (hb : c.callee = .builtin b) (w : World) :
    ∃ consts, (execOp ρ o).run P w = (builtin b c.argTypes o.type consts (c.args.map ρ)).run P w := by
  unfold execOp
  simp only [ho, resolve, hb, Sem.run_bind, Sem.run_pure, Result.andThen_ok, invoke]
  exact ⟨_, rfl⟩

theorem exec_func {P : Program} {ρ : Operand → Value} {c : Call} {f : FuncId} {o : Oper} (ho : o.op = .call c) (hb : c.callee = .value (.func f)) (hρ : ρ (.func f) = .func (.func f) #[] #[]) (w : World) :
    (execOp ρ o).run P w = (callFunc f (c.args.map ρ)).run P w := by
  unfold execOp
  simp only [ho, resolve, hb, hρ, Deferred.ofValue, Sem.run_bind, Sem.run_pure, Result.andThen_ok, invoke]
  simp

theorem callQ_ok {E : Env} (OK : E.OK) {ρ : Place} {F : T AV} {n : Nat} {a : Act} (hf : FR ρ F n a) {o : Oper} {c : Call} (ho : o.op = .call c) {v : AV} (h : callQ E F c = some v) (w : World) :
    ∃ z, (execOp a.eval o).run E.P w = .ok (.value z) w ∧ VR ρ v z := by
  have hargs := hf.evals c.args.toList
  have hmap : (c.args.map a.eval).toList = c.args.toList.map a.eval := by simp
  unfold callQ at h
  split at h
  · rename_i hcal
    obtain ⟨consts, hex⟩ := exec_builtin (ρ := a.eval) (P := E.P) ho hcal w
    rw [hex]
    split at h
    · rename_i t ht
      split at h
      · rename_i e hu
        split at h
        · rename_i b off len cap esz heq
          simp only [Option.some.injEq] at h
          subst h
          rw [heq] at hargs
          simp only [VRs] at hargs
          obtain ⟨y, ys, h1, h2, rfl⟩ := hargs
          simp only [VR] at h2
          obtain ⟨l, c', hl, rfl, _⟩ := h2
          have harr : c.args.map a.eval = #[.slice (some ⟨l.blk, l.off + off, none⟩) len c'] := Array.ext' (by rw [hmap, h1])
          refine ⟨.int .i64 len, ?_, by simp [VR]⟩
          rw [harr]
          simp [builtin, Builtin.len_, ht, run_underlying hu, goInt]
        · rename_i heq
          simp only [Option.some.injEq] at h
          subst h
          rw [heq] at hargs
          simp only [VRs] at hargs
          obtain ⟨y, ys, h1, h2, rfl⟩ := hargs
          simp only [VR] at h2
          obtain ⟨p, c', rfl⟩ := h2
          have harr : c.args.map a.eval = #[.slice (some p) 0 c'] := Array.ext' (by rw [hmap, h1])
          refine ⟨.int .i64 0, ?_, by simp [VR]⟩
          rw [harr]
          simp [builtin, Builtin.len_, ht, run_underlying hu, goInt]
        · cases h
      · cases h
    · cases h
  · rename_i hcal
    obtain ⟨consts, hex⟩ := exec_builtin (ρ := a.eval) (P := E.P) ho hcal w
    rw [hex]
    split at h
    · rename_i t ht
      split at h
      · rename_i e hu
        split at h
        · rename_i b off len cap esz heq
          simp only [Option.some.injEq] at h
          subst h
          rw [heq] at hargs
          simp only [VRs] at hargs
          obtain ⟨y, ys, h1, h2, rfl⟩ := hargs
          simp only [VR] at h2
          obtain ⟨l, c', hl, rfl, rfl⟩ := h2
          have harr : c.args.map a.eval = #[.slice (some ⟨l.blk, l.off + off, none⟩) len c'] := Array.ext' (by rw [hmap, h1])
          refine ⟨.int .i64 c', ?_, by simp [VR]⟩
          rw [harr]
          simp [builtin, Builtin.cap_, ht, run_underlying hu, goInt]
        · cases h
      · cases h
    · cases h
  · rename_i hcal
    obtain ⟨consts, hex⟩ := exec_builtin (ρ := a.eval) (P := E.P) ho hcal w
    rw [hex]
    split at h
    · rename_i b off len esz heq
      simp only [Option.some.injEq] at h
      subst h
      rw [heq] at hargs
      simp only [VRs] at hargs
      obtain ⟨y, ys, h1, h2, rfl⟩ := hargs
      simp only [VR] at h2
      obtain ⟨l, c', hl, rfl, hcap⟩ := h2
      have harr : c.args.map a.eval = #[.slice (some ⟨l.blk, l.off + off, none⟩) (len + 1) c'] := Array.ext' (by rw [hmap, h1])
      refine ⟨.pointer (some ⟨l.blk, l.off + off, none⟩), ?_, by simp only [VR]; exact ⟨l, hl, rfl⟩⟩
      rw [harr]
      simp only [builtin, Sem.run_bind, Lib.run_unsafeSliceData_row w _ _ _ _ _ (show c' ≠ 0 by omega), Result.andThen_ok, Sem.run_pure]
    · rename_i b off len cap esz heq
      simp only [Option.some.injEq] at h
      subst h
      rw [heq] at hargs
      simp only [VRs] at hargs
      obtain ⟨y, ys, h1, h2, rfl⟩ := hargs
      simp only [VR] at h2
      obtain ⟨l, c', hl, rfl, rfl⟩ := h2
      have harr : c.args.map a.eval = #[.slice (some ⟨l.blk, l.off + off, none⟩) len (cap + 1)] := Array.ext' (by rw [hmap, h1])
      refine ⟨.pointer (some ⟨l.blk, l.off + off, none⟩), ?_, by simp only [VR]; exact ⟨l, hl, rfl⟩⟩
      rw [harr]
      simp only [builtin, Sem.run_bind, Lib.run_unsafeSliceData_row w _ _ _ _ _ (show cap + 1 ≠ 0 by omega), Result.andThen_ok, Sem.run_pure]
    · cases h
  · rename_i f hcal
    split at h
    · rename_i k hk
      obtain ⟨z, hz, hv⟩ := extQ_ok hargs h w
      refine ⟨z, ?_, hv⟩
      rw [exec_func ho hcal rfl, OK.ext f k hk]
      have : c.args.map a.eval = (c.args.toList.map a.eval).toArray := Array.ext' (by simp)
      rw [this]
      exact hz
    · cases h
  · cases h

/-! Quiet operations, all of them. -/

def nilOk : AV → Bool
  | .ptr .. => true
  | .mapp _ => true
  | .iface .. => true
  | .func (.func _) _ _ => true
  | _ => false

def partsA (F : T AV) : List (Nat × Operand) → List (Nat × AV)
  | [] => []
  | (i, x) :: r => (i, opd F x) :: partsA F r

theorem partsA_ok {ρ : Place} {F : T AV} {n : Nat} {a : Act} (hf : FR ρ F n a) : ∀ (l : List (Nat × Operand)),
    (partsA F l).map (·.1) = (l.map fun p => (p.1, a.eval p.2)).map (·.1) ∧ VRs ρ ((partsA F l).map (·.2)) ((l.map fun p => (p.1, a.eval p.2)).map (·.2))
  | [] => by simp [partsA, VRs]
  | (i, x) :: r => by
    obtain ⟨h1, h2⟩ := partsA_ok hf r
    refine ⟨by simp only [partsA, List.map_cons, h1], ?_⟩
    simp only [partsA, List.map_cons, VRs]
    exact ⟨_, _, rfl, hf.eval x, h2⟩

/-- May the operation be tried with literal operands? -/
def litOk : Op → Bool
  | .select .. => false
  | .call c => match c.callee with
    | .builtin _ => true
    | _ => false
  | .go _ => false
  | .defer _ => false
  | _ => true

/-- The length of a map. -/
def mapLenQ (E : Env) (M : Mem) (F : T AV) (c : Call) : Option AV :=
  match c.callee with
  | .builtin .len => match c.argTypes[0]? with
    | some t => match c.args.toList with
      | [x] => mapLenA E.P M t (opd F x)
      | _ => none
    | none => none
  | _ => none

theorem mapLenQ_ok {E : Env} {base : Nat} {ρ : Place} {M : Mem} {w : World} (hc : Cons E base ρ M w) {F : T AV} {n : Nat} {a : Act} (hf : FR ρ F n a) {o : Oper} {c : Call} (ho : o.op = .call c) {v : AV}
    (h : mapLenQ E M F c = some v) : ∃ x, (execOp a.eval o).run E.P w = .ok (.value x) w ∧ VR ρ v x := by
  unfold mapLenQ at h
  split at h
  · rename_i hcal
    obtain ⟨consts, hex⟩ := exec_builtin (ρ := a.eval) (P := E.P) ho hcal w
    split at h
    · rename_i t ht
      split at h
      · rename_i x hx
        obtain ⟨z, h1, h2⟩ := mapLenA_ok (u := o.type) hc ht (hf.eval x) h
        have harr : c.args.map a.eval = #[a.eval x] := Array.ext' (by rw [Array.toList_map, hx]; rfl)
        refine ⟨z, ?_, h2⟩
        rw [hex, harr]
        simp only [builtin, Sem.run_bind, h1, Result.andThen_ok, Sem.run_pure]
      · cases h
    · cases h
  · cases h

def quietB (E : Env) (M : Mem) (F : T AV) (o : Oper) : Option AV :=
  match o.op with
  | .pick c x y => match opd F c with
    | .lit (.bool t) => some (cond t (opd F x) (opd F y))
    | _ => none
  | .nilCheck x => cond (nilOk (opd F x)) (some (opd F x)) none
  | .makeInterface t x => match E.P.underlying t with
    | some (.interface _) => none
    | some _ => some (.iface t (opd F x))
    | none => none
  | .makeFunc fn f c => some (.func fn (f.toList.map (opd F)) (c.toList.map (opd F)))
  | .fieldAddr s x f => fieldAddrA E.P s (opd F x) f
  | .field t x f => fieldA E.P t (opd F x) f
  | .indexAddr t x i => indexAddrA E.P t (opd F x) (opd F i)
  | .index t x i => indexA E.P t (opd F x) (opd F i)
  | .slice t x lo hi none => sliceA E.P F t (opd F x) lo hi
  | .extract x i => match opd F x with
    | .tuple vs => vs[i]?
    | _ => none
  | .build t parts => buildA E.P t (partsA F parts.toList)
  | .typeAssert x _ t ok => typeAssertA E.P (opd F x) t ok
  | .binOp .eql t x y _ => match eqA E.P t (opd F x) (opd F y) with
    | some b => some (.lit (.bool b))
    | none => none
  | .binOp .neq t x y _ => match eqA E.P t (opd F x) (opd F y) with
    | some b => some (.lit (.bool !b))
    | none => none
  | .convert s d x => convertA E M s d (opd F x)
  | .lookup t x i ok => lookupA E.P M t (opd F x) (opd F i) ok
  | .call c => match callQ E F c with
    | some v => some v
    | none => mapLenQ E M F c
  | _ => none

/-! Comparisons of whole numbers, so that the kernel steps through them though one of them be open. -/

def ltI : Int → Int → Bool
  | .ofNat a, .ofNat b => Nat.blt a b
  | .ofNat _, .negSucc _ => false
  | .negSucc _, .ofNat _ => true
  | .negSucc a, .negSucc b => Nat.blt b a

def eqI : Int → Int → Bool
  | .ofNat a, .ofNat b => Nat.beq a b
  | .negSucc a, .negSucc b => Nat.beq a b
  | _, _ => false

theorem ltI_eq (a b : Int) : ltI a b = decide (a < b) := by
  cases a <;> cases b <;> simp only [ltI] <;> rw [Bool.eq_iff_iff] <;> simp only [Nat.blt_eq, decide_eq_true_eq, Bool.false_eq_true, false_iff, true_iff, Int.ofNat_eq_natCast] <;> omega

theorem eqI_eq (a b : Int) : eqI a b = (a == b) := by
  cases a <;> cases b <;> simp only [eqI] <;> rw [Bool.eq_iff_iff] <;> simp only [Nat.beq_eq, beq_iff_eq, Bool.false_eq_true, false_iff, Int.ofNat_eq_natCast] <;> omega

def cmpI : BinOp → Int → Int → Option Bool
  | .lss, a, b => some (ltI a b)
  | .leq, a, b => some (!ltI b a)
  | .gtr, a, b => some (ltI b a)
  | .geq, a, b => some (!ltI a b)
  | .eql, a, b => some (eqI a b)
  | .neq, a, b => some (!eqI a b)
  | _, _, _ => none

theorem cmpI_run {P : Program} {op : BinOp} {t : TypeId} {x y : Operand} {k : IntKind} {a b : Int} {c : Bool} (h : cmpI op a b = some c) (w : World) :
    ((do eqGuard op t x y (.int k a) (.int k b); binOp op t (.int k a) (.int k b)) : Sem Value).run P w = .ok (.bool c) w := by
  cases op <;> simp only [cmpI, Option.some.injEq, reduceCtorEq] at h <;> subst h <;>
    simp [eqGuard, binOp, Op.intCmp, Sem.run_pure, ltI_eq, eqI_eq]
  all_goals (rw [Bool.eq_iff_iff]; simp)

def cmpA (F : T AV) : Op → Option AV
  | .binOp op _ x y _ => match opd F x, opd F y with
    | .lit (.int k a), .lit (.int k' b) => match decide (k = k') with
      | true => match cmpI op a b with
        | some c => some (.lit (.bool c))
        | none => none
      | false => none
    | _, _ => none
  | _ => none

theorem cmpA_ok {P : Program} {ρ : Place} {F : T AV} {n : Nat} {a : Act} (hf : FR ρ F n a) {o : Oper} {v : AV} (h : cmpA F o.op = some v) (w : World) :
    ∃ x, (execOp a.eval o).run P w = .ok (.value x) w ∧ VR ρ v x := by
  unfold cmpA at h
  split at h
  · rename_i op t x y _ ho
    have hx := hf.eval x
    have hy := hf.eval y
    split at h
    · rename_i k p k' q ex ey
      rw [ex] at hx
      rw [ey] at hy
      simp only [VR] at hx hy
      split at h
      · rename_i hk
        have hk := of_decide_eq_true hk
        subst hk
        split at h
        · rename_i c hc
          simp only [Option.some.injEq] at h
          subst h
          refine ⟨.bool c, ?_, by simp [VR]⟩
          unfold execOp
          simp only [ho, hx, hy]
          rw [Sem.run_bind, cmpI_run hc]
          rfl
        · cases h
      · cases h
    · cases h
  · cases h

def quiet0 (E : Env) (M : Mem) (F : T AV) (o : Oper) : Option AV :=
  match o.op with
  | .move x => some (opd F x)
  | .assign x => some (opd F x)
  | .load t p => loadA E M t (opd F p)
  | op => match cmpA F op with
    | some v => some v
    | none => match litOk op with
      | true => match litOp E.P F o with
        | some v => some v
        | none => quietB E M F o
      | false => quietB E M F o

theorem quietB_ok {E : Env} (OK : E.OK) {base : Nat} {ρ : Place} {M : Mem} {w : World} (hc : Cons E base ρ M w) {F : T AV} {n : Nat} {a : Act} (hf : FR ρ F n a) {o : Oper} {v : AV}
    (h : quietB E M F o = some v) : ∃ x, (execOp a.eval o).run E.P w = .ok (.value x) w ∧ VR ρ v x := by
  unfold quietB at h
  split at h
  · rename_i c x y ho
    have hv := hf.eval c
    split at h
    · rename_i t ht
      rw [ht] at hv
      simp only [VR] at hv
      simp only [Option.some.injEq] at h
      subst h
      cases t with
      | true => exact ⟨a.eval x, by unfold execOp; simp [ho, hv, asBool], by simpa using hf.eval x⟩
      | false => exact ⟨a.eval y, by unfold execOp; simp [ho, hv, asBool], by simpa using hf.eval y⟩
    · cases h
  · rename_i x ho
    have hv := hf.eval x
    revert h hv
    generalize opd F x = q
    intro h hv
    cases hq : nilOk q with
    | false => rw [hq] at h; simp at h
    | true =>
      rw [hq] at h
      simp only [cond_true, Option.some.injEq] at h
      subst h
      refine ⟨a.eval x, ?_, hv⟩
      unfold execOp
      simp only [ho]
      unfold nilOk at hq
      split at hq
      · simp only [VR] at hv; obtain ⟨l, _, e⟩ := hv; rw [e]; rfl
      · simp only [VR] at hv; obtain ⟨l, _, e⟩ := hv; rw [e]; rfl
      · simp only [VR] at hv; obtain ⟨l, e, _⟩ := hv; rw [e]; rfl
      · simp only [VR] at hv; obtain ⟨f', c', e, _⟩ := hv; rw [e]; rfl
      · cases hq
  · rename_i t x ho
    split at h
    · cases h
    · rename_i d hd hne
      simp only [Option.some.injEq] at h
      subst h
      refine ⟨.iface t (a.eval x), ?_, by simp only [VR]; exact ⟨_, rfl, hf.eval x⟩⟩
      unfold execOp
      simp only [ho, Instr.makeInterface, Sem.run_bind, run_underlying hne, Result.andThen_ok]
      cases d <;> first | (exact absurd rfl (hd _)) | rfl
    · cases h
  · rename_i fn f c ho
    simp only [Option.some.injEq] at h
    subst h
    refine ⟨.func fn (f.map a.eval) (c.map a.eval), by unfold execOp; simp [ho, Instr.makeFunc], ?_⟩
    simp only [VR]
    exact ⟨_, _, rfl, by simpa using hf.evals f.toList, by simpa using hf.evals c.toList⟩
  · rename_i s x f ho
    obtain ⟨y, hy, hv⟩ := fieldAddrA_ok (hf.eval x) h w
    exact ⟨y, by unfold execOp; simp [ho, hy], hv⟩
  · rename_i t x f ho
    obtain ⟨y, hy, hv⟩ := fieldA_ok (hf.eval x) h w
    exact ⟨y, by unfold execOp; simp [ho, hy], hv⟩
  · rename_i t x i ho
    obtain ⟨y, hy, hv⟩ := indexAddrA_ok (hf.eval x) (hf.eval i) h w
    exact ⟨y, by unfold execOp; simp [ho, hy], hv⟩
  · rename_i t x i ho
    obtain ⟨y, hy, hv⟩ := indexA_ok (hf.eval x) (hf.eval i) h w
    exact ⟨y, by unfold execOp; simp [ho, hy], hv⟩
  · rename_i t x lo hi ho
    obtain ⟨y, hy, hv⟩ := sliceA_ok hf (hf.eval x) h w
    exact ⟨y, by unfold execOp; simp [ho, hy], hv⟩
  · rename_i x i ho
    have hv := hf.eval x
    split at h
    · rename_i vs hvs
      rw [hvs] at hv
      simp only [VR] at hv
      obtain ⟨arr, e, hr⟩ := hv
      obtain ⟨y, hy, hvy⟩ := hr.get i v h
      have hy' : arr[i]? = some y := by simpa using hy
      exact ⟨y, by unfold execOp; simp [ho, e, Instr.extract, hy'], hvy⟩
    · cases h
  · rename_i t parts ho
    obtain ⟨p1, p2⟩ := partsA_ok hf parts.toList
    obtain ⟨y, hy, hv⟩ := buildA_ok (vals := parts.map fun (i, x) => (i, a.eval x)) (by simpa using p1) (by simpa using p2) h w
    exact ⟨y, by unfold execOp; simp [ho, hy], hv⟩
  · rename_i x xt t ok ho
    obtain ⟨y, hy, hv⟩ := typeAssertA_ok (xt := xt) (hf.eval x) h w
    exact ⟨y, by unfold execOp; simp [ho, hy], hv⟩
  · rename_i t x y _ ho
    split at h
    · rename_i b hb
      simp only [Option.some.injEq] at h
      subst h
      have := (eqA_ok (p := x) (q := y) (hf.eval x) (hf.eval y) hb w).1
      refine ⟨.bool b, ?_, by simp [VR]⟩
      unfold execOp
      simp only [ho]
      rw [Sem.run_bind, this]
      rfl
    · cases h
  · rename_i t x y _ ho
    split at h
    · rename_i b hb
      simp only [Option.some.injEq] at h
      subst h
      have := (eqA_ok (p := x) (q := y) (hf.eval x) (hf.eval y) hb w).2
      refine ⟨.bool !b, ?_, by simp [VR]⟩
      unfold execOp
      simp only [ho]
      rw [Sem.run_bind, this]
      rfl
    · cases h
  · rename_i s d x ho
    obtain ⟨y, hy, hv⟩ := convertA_ok hc (hf.eval x) h
    exact ⟨y, by unfold execOp; simp [ho, hy], hv⟩
  · rename_i t x i ok ho
    obtain ⟨y, hy, hv⟩ := lookupA_ok hc (hf.eval x) (hf.eval i) h
    exact ⟨y, by unfold execOp; simp [ho, hy], hv⟩
  · rename_i c ho
    split at h
    · rename_i u hu
      simp only [Option.some.injEq] at h
      subst h
      exact callQ_ok OK hf ho hu w
    · exact mapLenQ_ok hc hf ho h
  · cases h

theorem quiet0_ok {E : Env} (OK : E.OK) {base : Nat} {ρ : Place} {M : Mem} {w : World} (hc : Cons E base ρ M w) {F : T AV} {n : Nat} {a : Act} (hf : FR ρ F n a) {o : Oper} {v : AV}
    (h : quiet0 E M F o = some v) : ∃ x, (execOp a.eval o).run E.P w = .ok (.value x) w ∧ VR ρ v x := by
  unfold quiet0 at h
  split at h
  · rename_i x ho
    simp only [Option.some.injEq] at h
    subst h
    exact ⟨a.eval x, by unfold execOp; simp [ho], hf.eval x⟩
  · rename_i x ho
    simp only [Option.some.injEq] at h
    subst h
    exact ⟨a.eval x, by unfold execOp; simp [ho], hf.eval x⟩
  · rename_i t p ho
    obtain ⟨y, hy, hv⟩ := loadA_ok hc (hf.eval p) h
    exact ⟨y, by unfold execOp; simp [ho, hy], hv⟩
  · split at h
    · rename_i u hu
      simp only [Option.some.injEq] at h
      subst h
      exact cmpA_ok hf hu w
    · split at h
      · split at h
        · rename_i u hu
          simp only [Option.some.injEq] at h
          subst h
          exact litOp_ok hf hu w
        · exact quietB_ok OK hc hf h
      · exact quietB_ok OK hc hf h

/-! Operations on expressions. -/

/-- A value as an expression; is it no literal? -/
def exOf : AV → Option (Exp × Bool)
  | .ex e => some (e, true)
  | .lit (.int k n) => some (.lit (.int k n), false)
  | .lit (.bool b) => some (.lit (.bool b), false)
  | .lit (.string s) => some (.lit (.string s), false)
  | .lit (.float k n) => some (.lit (.float k n), false)
  | _ => none

theorem exOf_ok {ρ : Place} {a : AV} {v : Value} {e : Exp} {p : Bool} (hv : VR ρ a v) (h : exOf a = some (e, p)) : e.ev ρ = some v := by
  unfold exOf at h
  split at h <;> simp only [Option.some.injEq, Prod.mk.injEq, reduceCtorEq] at h
  · obtain ⟨rfl, rfl⟩ := h
    simp only [VR] at hv
    exact hv.1
  all_goals
    obtain ⟨rfl, rfl⟩ := h
    simp only [VR] at hv
    rw [hv]
    rfl

/-! Structs compared, cell by cell. -/

def tyFits : TypeDesc → Ty → Bool
  | .int _, .int _ => true
  | .string, .str => true
  | .bool, .bool => true
  | _, _ => false

/-- Are two cells of this type the same? -/
def eqCell (E : Env) (t : TypeId) (x y : AV) : Option Bool :=
  match E.P.underlying t with
  | some u => match exOf x, exOf y with
    | some (a, p), some (b, q) => match tyOf E.tys a with
      | some ty => match tyFits u ty with
        | true => match (p || q) with
          | true => match a.same b with
            | true => some true
            | false => match resolveE E.tys E.facts (.bin .eql a b) with
              | some (.lit (.bool r)) => some r
              | _ => none
          | false => match Exp.ev (fun _ => none) (.bin .eql a b) with
            | some (.bool r) => some r
            | _ => none
        | false => none
      | none => none
    | _, _ => none
  | none => none

theorem evEq_run {P : Program} {d : Nat} {t : TypeId} {u : TypeDesc} (hu : P.underlying t = some u) {x y : Value} {ty : Ty} (hf : tyFits u ty = true) (hx : hasTy x ty = true) {r : Bool} (h : evBin .eql x y = some (.bool r)) (w : World) :
    (Op.equalIn (d + 1) t x y).run P w = .ok r w := by
  cases ty with
  | int k =>
    obtain ⟨n, rfl⟩ := hasTy_int hx
    cases u <;> simp [tyFits] at hf
    cases y <;> simp only [evBin, reduceCtorEq] at h
    rename_i k0 k' m
    obtain ⟨rfl, hc⟩ := evBin_int (o := .eql) (t := r) h
    simp only [cmpInt, Option.some.injEq] at hc
    rw [run_equalIn_int w d t k k0 n m hu]
    rw [← hc]
    congr 1
  | bool =>
    obtain ⟨n, rfl⟩ := hasTy_bool hx
    cases u <;> simp [tyFits] at hf
    cases y <;> simp only [evBin, reduceCtorEq, Option.some.injEq, Value.bool.injEq] at h
    rw [run_equalIn_bool' w d t _ _ hu, h]
  | str =>
    obtain ⟨n, rfl⟩ := hasTy_str hx
    cases u <;> simp [tyFits] at hf
    cases y <;> simp only [evBin, reduceCtorEq] at h
    rw [run_equalIn_string w d t _ _ hu]
    simp only [Go.binOp, Op.stringOp, pure, pure0, Option.some.injEq, Value.bool.injEq] at h
    rw [h]
  | flt k => cases u <;> simp [tyFits] at hf

theorem ev_none {σ : Place} {e : Exp} {v : Value} (h : e.ev (fun _ => none) = some v) : e.ev σ = some v := Exp.ev_mono (fun _ _ h => by cases h) h

theorem eqCell_ok {E : Env} (OK : E.OK) {ρ : Place} (hle : E.sy.le ρ) {t : TypeId} {x y : AV} {v z : Value} (hx : VR ρ x v) (hy : VR ρ y z) {r : Bool} (h : eqCell E t x y = some r) (d : Nat) (w : World) :
    (Op.equalIn (d + 1) t v z).run E.P w = .ok r w := by
  unfold eqCell at h
  split at h
  · rename_i u hu
    split at h
    · rename_i a p b q h1 h2
      have ex := exOf_ok hx h1
      have ey := exOf_ok hy h2
      split at h
      · rename_i ty hty
        obtain ⟨v', ev', hv'⟩ := tyOf_ok OK.ty a ty hty
        have hvv := Exp.ev_mono hle ev'
        rw [ex, Option.some.injEq] at hvv
        subst hvv
        split at h
        · rename_i hfit
          refine evEq_run hu hfit hv' ?_ w
          split at h
          · split at h
            · rename_i hs
              simp only [Option.some.injEq] at h
              subst h
              have := Exp.same_ok hs
              subst this
              rw [ex, Option.some.injEq] at ey
              subst ey
              cases ty with
              | int k => obtain ⟨n, rfl⟩ := hasTy_int hv'; simp [evBin, Go.binOp, Op.intCmp, pure, pure0]
              | bool => obtain ⟨n, rfl⟩ := hasTy_bool hv'; simp [evBin]
              | str => obtain ⟨n, rfl⟩ := hasTy_str hv'; simp [evBin, Go.binOp, Op.stringOp, pure, pure0]
              | flt k => cases u <;> simp [tyFits] at hfit
            · split at h
              · rename_i r' hr
                simp only [Option.some.injEq] at h
                subst h
                obtain ⟨k, k1, k2⟩ := resolveE_ok hle OK.ty OK.fact hr
                simp only [Exp.ev, ex, ey] at k1
                simp only [VR] at k2
                rw [k1, k2]
              · cases h
          · split at h
            · rename_i r' hr
              simp only [Option.some.injEq] at h
              subst h
              have := ev_none (σ := ρ) hr
              simp only [Exp.ev, ex, ey] at this
              exact this
            · cases h
        · cases h
      · cases h
    · cases h
  · cases h

def eqFieldsA (E : Env) (xs ys : List AV) : List Field → Option Bool
  | [] => some true
  | f :: fs => match decide (f.name = "_") with
    | true => eqFieldsA E xs ys fs
    | false => match partA E.P f.type xs f.offset, partA E.P f.type ys f.offset with
      | some a, some b => match eqCell E f.type a b with
        | some true => eqFieldsA E xs ys fs
        | some false => some false
        | none => none
      | _, _ => none

theorem eqFieldsA_ok {E : Env} (OK : E.OK) {ρ : Place} (hle : E.sy.le ρ) {xs ys : List AV} {vs zs : Array Value} (hx : VRs ρ xs vs.toList) (hy : VRs ρ ys zs.toList) (d : Nat) (w : World) : ∀ (fs : List Field) {r : Bool}, eqFieldsA E xs ys fs = some r →
    (Op.eqFields (d + 1) vs zs fs).run E.P w = .ok r w
  | [], r, h => by
    simp only [eqFieldsA, Option.some.injEq] at h
    subst h
    rfl
  | f :: fs, r, h => by
    simp only [eqFieldsA] at h
    split at h
    · rename_i hn
      have hn := of_decide_eq_true hn
      simp only [Op.eqFields, hn, ne_eq, not_true_eq_false, if_false]
      exact eqFieldsA_ok OK hle hx hy d w fs h
    · rename_i hn
      have hn := of_decide_eq_false hn
      split at h
      · rename_i a b ha hb
        obtain ⟨p, hp, hpv⟩ := partA_ok hx ha w
        obtain ⟨q, hq, hqv⟩ := partA_ok hy hb w
        have fin : ∀ r, eqCell E f.type a b = some r → (Op.equalIn (d + 1) f.type p q).run E.P w = .ok r w := fun r hr => eqCell_ok OK hle hpv hqv hr d w
        simp only [Op.eqFields, ne_eq, hn, not_false_eq_true, if_true, Sem.run_bind, hp, hq, Result.andThen_ok]
        split at h
        · rename_i hc
          rw [fin _ hc]
          simpa using eqFieldsA_ok OK hle hx hy d w fs h
        · rename_i hc
          rw [fin _ hc]
          simp only [Option.some.injEq] at h
          subst h
          simp
        · cases h
      · cases h

def eqAggA (E : Env) (t : TypeId) (xs ys : List AV) : Option Bool :=
  match E.P.underlying t with
  | some (.struct fs) => match E.P.stoodInHeld t, E.P.eqGuardType E.P.depth t with
    | false, false => eqFieldsA E xs ys fs.toList
    | _, _ => none
  | _ => none

theorem eqAggA_ok {E : Env} (OK : E.OK) {ρ : Place} (hle : E.sy.le ρ) {t : TypeId} {xs ys : List AV} {v z : Value} (hx : VR ρ (.agg xs) v) (hy : VR ρ (.agg ys) z) {r : Bool} (h : eqAggA E t xs ys = some r) (op : BinOp) (X Y : Operand) (w : World) :
    (op = .eql → (do eqGuard op t X Y v z; Go.binOp op t v z : Sem Value).run E.P w = .ok (.bool r) w) ∧ (op = .neq → (do eqGuard op t X Y v z; Go.binOp op t v z : Sem Value).run E.P w = .ok (.bool !r) w) := by
  unfold eqAggA at h
  split at h
  · rename_i fs hu
    split at h
    · rename_i h1 h2
      simp only [VR] at hx hy
      obtain ⟨vs, rfl, hxs⟩ := hx
      obtain ⟨zs, rfl, hys⟩ := hy
      have hfo : E.P.fieldsOf t = fs := by unfold Program.fieldsOf; rw [hu]
      have hu' : E.P.underlying t = some (.struct (E.P.fieldsOf t)) := by rw [hfo]; exact hu
      have hE : (Op.equalIn 10000 t (.agg vs) (.agg zs)).run E.P w = .ok r w := by
        rw [run_equalIn_struct w 9999 t vs zs hu' h1, hfo]
        exact eqFieldsA_ok OK hle hxs hys 9998 w fs.toList h
      refine ⟨fun e => ?_, fun e => ?_⟩
      · subst e
        rw [Sem.run_bind, run_eqGuard_agg w _ t X Y vs zs h2, Result.andThen_ok, run_eql_struct w t vs zs, hE]
        rfl
      · subst e
        rw [Sem.run_bind, run_eqGuard_agg w _ t X Y vs zs h2, Result.andThen_ok, run_neq_struct w t vs zs, hE]
        rfl
    · cases h
  · cases h

def eqAggX (E : Env) (F : T AV) (o : Op) : Option AV :=
  match o with
  | .binOp op t x y _ => match opd F x, opd F y with
    | .agg xs, .agg ys => match op with
      | .eql => match eqAggA E t xs ys with
        | some r => some (.lit (.bool r))
        | none => none
      | .neq => match eqAggA E t xs ys with
        | some r => some (.lit (.bool !r))
        | none => none
      | _ => none
    | _, _ => none
  | _ => none

theorem eqAggX_ok {E : Env} (OK : E.OK) {base : Nat} {ρ : Place} {M : Mem} {w : World} (hc : Cons E base ρ M w) {F : T AV} {n : Nat} {a : Act} (hf : FR ρ F n a) {o : Oper} {v : AV} (h : eqAggX E F o.op = some v) :
    ∃ x, (execOp a.eval o).run E.P w = .ok (.value x) w ∧ VR ρ v x := by
  unfold eqAggX at h
  split at h
  · rename_i op t x y _ ho
    have hx := hf.eval x
    have hy := hf.eval y
    split at h
    · rename_i xs ys ex ey
      rw [ex] at hx
      rw [ey] at hy
      split at h
      · split at h
        · rename_i r hr
          simp only [Option.some.injEq] at h
          subst h
          refine ⟨.bool r, ?_, by simp [VR]⟩
          unfold execOp
          simp only [ho]
          rw [Sem.run_bind, (eqAggA_ok OK hc.sym hx hy hr .eql x y w).1 rfl]
          rfl
        · cases h
      · split at h
        · rename_i r hr
          simp only [Option.some.injEq] at h
          subst h
          refine ⟨.bool !r, ?_, by simp [VR]⟩
          unfold execOp
          simp only [ho]
          rw [Sem.run_bind, (eqAggA_ok OK hc.sym hx hy hr .neq x y w).2 rfl]
          rfl
        · cases h
      · cases h
    · cases h
  · cases h

def exA (E : Env) (F : T AV) (o : Op) : Option AV :=
  match o with
  | .binOp op t x y _ => match exOf (opd F x), exOf (opd F y) with
    | some (a, p), some (b, q) => match (p || q) with
      | true => match tyOf E.tys a with
        | some .bool => match E.P.underlying t with
          | some .bool => resolveE E.tys E.facts (.bin op a b)
          | _ => none
        | _ => resolveE E.tys E.facts (.bin op a b)
      | false => none
    | _, _ => none
  | .unOp .not _ x => match exOf (opd F x) with
    | some (a, true) => resolveE E.tys E.facts (.not a)
    | _ => none
  | .call c => match c.callee with
    | .builtin .len => match c.argTypes[0]? with
      | some t => match E.P.underlying t with
        | some .string => match c.args.toList.map (opd F) with
          | [x] => match exOf x with
            | some (a, true) => resolveE E.tys E.facts (.len a)
            | _ => none
          | _ => none
        | _ => none
      | none => none
    | _ => none
  | _ => none

theorem evBin_exec {P : Program} {o : BinOp} {t : TypeId} {X Y : Operand} {x y v : Value} (h : evBin o x y = some v) (hb : ∀ a, x = .bool a → P.underlying t = some .bool) (w : World) :
    (do eqGuard o t X Y x y; Go.binOp o t x y : Sem Value).run P w = .ok v w := by
  unfold evBin at h
  split at h
  · rename_i k a k' b
    have hg : eqGuard o t X Y (.int k a) (.int k' b) = pure () := by unfold eqGuard; cases o <;> rfl
    have e : Go.binOp o t (.int k a) (.int k' b) = Go.binOp o 0 (.int k a) (.int k' b) := by cases o <;> rfl
    rw [hg, e]
    simp [pure0_run _ _ h w]
  · rename_i k a k' b
    have hg : eqGuard o t X Y (.float k a) (.float k' b) = pure () := by unfold eqGuard; cases o <;> rfl
    have e : Go.binOp o t (.float k a) (.float k' b) = Go.binOp o 0 (.float k a) (.float k' b) := by cases o <;> rfl
    rw [hg, e]
    simp [pure0_run _ _ h w]
  · rename_i a b
    have hg : eqGuard o t X Y (.string a) (.string b) = pure () := by unfold eqGuard; cases o <;> rfl
    have e : Go.binOp o t (.string a) (.string b) = Go.binOp o 0 (.string a) (.string b) := by cases o <;> rfl
    rw [hg, e]
    simp [pure0_run _ _ h w]
  · rename_i a b
    have hg : eqGuard o t X Y (.bool a) (.bool b) = pure () := by unfold eqGuard; cases o <;> rfl
    have hu := hb a rfl
    have he : (Op.equal t (.bool a) (.bool b)).run P w = .ok (a == b) w := by
      show (Op.equalIn (9999 + 1) t (.bool a) (.bool b)).run P w = _
      rw [Op.equalIn, Sem.run_bind, run_underlying hu]
      rfl
    rw [hg]
    split at h
    · simp only [Option.some.injEq] at h
      subst h
      show ((Op.equal t (.bool a) (.bool b) >>= fun r => pure (Value.bool r) : Sem Value)).run P w = _
      rw [Sem.run_bind, he]
      rfl
    · simp only [Option.some.injEq] at h
      subst h
      show ((Op.equal t (.bool a) (.bool b) >>= fun r => pure (Value.bool !r) : Sem Value)).run P w = _
      rw [Sem.run_bind, he]
      rfl
    · cases h
  · cases h

theorem exA_ok {E : Env} (OK : E.OK) {base : Nat} {ρ : Place} {M : Mem} {w : World} (hc : Cons E base ρ M w) {F : T AV} {n : Nat} {a : Act} (hf : FR ρ F n a) {o : Oper} {v : AV} (h : exA E F o.op = some v) :
    ∃ x, (execOp a.eval o).run E.P w = .ok (.value x) w ∧ VR ρ v x := by
  have res : ∀ {e : Exp} {v : AV}, resolveE E.tys E.facts e = some v → ∃ x, e.ev ρ = some x ∧ VR ρ v x := fun h => resolveE_ok hc.sym OK.ty OK.fact h
  unfold exA at h
  split at h
  · rename_i op t x y _ ho
    split at h
    · rename_i e1 p e2 q h1 h2
      have hx := exOf_ok (hf.eval x) h1
      have hy := exOf_ok (hf.eval y) h2
      split at h
      · have fin : ∀ {v : AV}, resolveE E.tys E.facts (.bin op e1 e2) = some v → (∀ b, a.eval x = .bool b → E.P.underlying t = some .bool) → ∃ x, (execOp a.eval o).run E.P w = .ok (.value x) w ∧ VR ρ v x := by
          intro v hv hb
          obtain ⟨z, k1, k2⟩ := res hv
          simp only [Exp.ev, hx, hy] at k1
          refine ⟨z, ?_, k2⟩
          unfold execOp
          simp only [ho]
          rw [Sem.run_bind, evBin_exec k1 hb w]
          rfl
        split at h
        · split at h
          · rename_i hu
            exact fin h fun _ _ => hu
          · cases h
        · rename_i hnb
          refine fin h fun b hb => ?_
          exfalso
          unfold resolveE at h
          rw [hb] at hx
          -- the first one is no truth
          have hty : ∀ t, tyOf E.tys e1 = some t → t = .bool := by
            intro t ht
            obtain ⟨v', ev', hv'⟩ := tyOf_ok OK.ty e1 t ht
            have := Exp.ev_mono hc.sym ev'
            rw [hx, Option.some.injEq] at this
            subst this
            cases t <;> simp [hasTy] at hv'
            rfl
          cases hq : tyOf E.tys e1 with
          | none =>
            have : tyOf E.tys (.bin op e1 e2) = none := by simp [tyOf, hq]
            rw [this] at h
            cases h
          | some t' =>
            have := hty t' hq
            subst this
            exact hnb hq
      · cases h
    · cases h
  · rename_i t x ho
    split at h
    · rename_i e1 h1
      have hx := exOf_ok (hf.eval x) h1
      obtain ⟨z, k1, k2⟩ := res h
      simp only [Exp.ev, hx] at k1
      split at k1
      · rename_i b hb
        simp only [Option.some.injEq] at hb k1
        subst k1
        refine ⟨_, ?_, k2⟩
        unfold execOp
        simp [ho, hb, Op.unary]
      · cases k1
    · cases h
  · rename_i c ho
    split at h
    · rename_i hcal
      split at h
      · rename_i t ht
        split at h
        · rename_i hu
          split at h
          · rename_i x hargs
            split at h
            · rename_i e1 h1
              have hv := hf.evals c.args.toList
              rw [hargs] at hv
              simp only [VRs] at hv
              obtain ⟨y, ys, g1, g2, rfl⟩ := hv
              have hx := exOf_ok g2 h1
              obtain ⟨z, k1, k2⟩ := res h
              simp only [Exp.ev, hx] at k1
              split at k1
              · rename_i s hs
                simp only [Option.some.injEq] at hs k1
                subst hs k1
                have harr : c.args.map a.eval = #[.string s] := Array.ext' (by simpa using g1)
                obtain ⟨consts, hex⟩ := exec_builtin (ρ := a.eval) (P := E.P) ho hcal w
                refine ⟨_, ?_, k2⟩
                rw [hex, harr]
                simp [builtin, Builtin.len_, ht, run_underlying hu, goInt]
              · cases k1
            · cases h
          · cases h
        · cases h
      · cases h
    · cases h
  · cases h

def quiet1 (E : Env) (M : Mem) (F : T AV) (o : Oper) : Option AV :=
  match quiet0 E M F o with
  | some v => some v
  | none => match exA E F o.op with
    | some v => some v
    | none => match eqAggX E F o.op with
      | some v => some v
      | none => E.opc o.op (opd F)

theorem quiet1_ok {E : Env} (OK : E.OK) {base : Nat} {ρ : Place} {M : Mem} {w : World} (hc : Cons E base ρ M w) {F : T AV} {n : Nat} {a : Act} (hf : FR ρ F n a) {o : Oper} {v : AV}
    (h : quiet1 E M F o = some v) : ∃ x, (execOp a.eval o).run E.P w = .ok (.value x) w ∧ VR ρ v x := by
  unfold quiet1 at h
  split at h
  · rename_i u hu
    simp only [Option.some.injEq] at h
    subst h
    exact quiet0_ok OK hc hf hu
  · split at h
    · rename_i u hu
      simp only [Option.some.injEq] at h
      subst h
      exact exA_ok OK hc hf hu
    · split at h
      · rename_i u hu
        simp only [Option.some.injEq] at h
        subst h
        exact eqAggX_ok OK hc hf hu
      · exact OK.opc _ _ _ h base ρ w a.eval hc.glob hc.sym hf.eval o rfl

/-- A truth that is known is told. -/
def normA (E : Env) : AV → AV
  | .ex e => match tyOf E.tys e with
    | some .bool => match decideE E.facts e with
      | some b => .lit (.bool b)
      | none => .ex e
    | _ => .ex e
  | v => v

theorem normA_ok {E : Env} (OK : E.OK) {ρ : Place} (hle : E.sy.le ρ) {v : AV} {x : Value} (h : VR ρ v x) : VR ρ (normA E v) x := by
  unfold normA
  split
  · rename_i e
    split
    · rename_i hty
      split
      · rename_i b hb
        have h1 := Exp.ev_mono hle (decideE_ok OK.ty OK.fact hty hb)
        simp only [VR] at h ⊢
        rw [h.1, Option.some.injEq] at h1
        exact h1
      · exact h
    · exact h
  · exact h

def quiet (E : Env) (M : Mem) (F : T AV) (o : Oper) : Option AV :=
  match quiet1 E M F o with
  | some v => some (normA E v)
  | none => none

theorem quiet_ok {E : Env} (OK : E.OK) {base : Nat} {ρ : Place} {M : Mem} {w : World} (hc : Cons E base ρ M w) {F : T AV} {n : Nat} {a : Act} (hf : FR ρ F n a) {o : Oper} {v : AV}
    (h : quiet E M F o = some v) : ∃ x, (execOp a.eval o).run E.P w = .ok (.value x) w ∧ VR ρ v x := by
  unfold quiet at h
  split at h
  · rename_i u hu
    simp only [Option.some.injEq] at h
    subst h
    obtain ⟨x, h1, h2⟩ := quiet1_ok OK hc hf hu
    exact ⟨x, h1, normA_ok OK hc.sym h2⟩
  · cases h

end Go.Proofs.YtiamenedboifeabGreatDoor.Rx

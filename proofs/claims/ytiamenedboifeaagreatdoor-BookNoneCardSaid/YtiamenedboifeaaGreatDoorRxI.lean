/- A reflective evaluator of the model's code, part I: what single operations do, put together. -/
import Derived.Test.YtiamenedboifeaaGreatDoorRxH
import Derived.Test.YtiamenedboifeaaGreatDoorRxE
namespace Go.Proofs.YtiamenedboifeaaGreatDoor.Rx
open Go.Instr

def extSem (bt : TypeId) : Nat → Array Value → Sem Value
  | 0 => Extern.AbiNoEscape.same
  | 1 => Extern.MathFloatBits.float64bits
  | 2 => Extern.MathFloatBits.float64frombits
  | 3 => Extern.BytealgIndexByte.indexByte
  | 4 => Extern.BytealgCount.count
  | 5 => Extern.BytealgMakeNoZero.makeNoZero #[] #[bt]
  | 6 => Extern.MathFloatBits.float32bits
  | 7 => Extern.MathFloatBits.float32frombits
  | 8 => Extern.MathFloor.toIntegral "math.archFloor" .down
  | 9 => Extern.MathFloor.toIntegral "math.archCeil" .up
  | 10 => Extern.MathFloor.toIntegral "math.archTrunc" .zero
  | 11 => Extern.MapsClone.clone
  | _ => fun _ => stuck ""

structure Env.OK (E : Env) : Prop where
  mixed : E.P.follows .mixedOrders = true
  fn : ∀ f fn, E.fn.get f = some fn → E.P.funcs[f]? = some fn ∧ ∀ args w, (callFunc f args).run E.P w = .ok (.enter f args) w
  ext : ∀ f k, E.ext.get f = some k → ∀ args w, (callFunc f args).run E.P w = ((do pure (.value (← extSem E.bt k args))) : Sem Next).run E.P w

/-! Conversions. -/

def u8s : List AV → Option (List Int)
  | [] => some []
  | .lit (.int .u8 n) :: r => match u8s r with
    | some l => some (n :: l)
    | none => none
  | _ => none

theorem u8s_ok {ρ : Place} : ∀ (a : List AV) (w : List Value) (l : List Int), VRs ρ a w → u8s a = some l → w = l.map (Value.int .u8)
  | [], w, l, h, e => by
    simp only [u8s, Option.some.injEq] at e
    subst e
    simpa [VRs] using h
  | a :: as, w, l, h, e => by
    simp only [VRs] at h
    obtain ⟨x, xs, rfl, h1, h2⟩ := h
    unfold u8s at e
    split at e
    · rename_i heq; cases heq
    · rename_i n r heq
      simp only [List.cons.injEq] at heq
      obtain ⟨rfl, rfl⟩ := heq
      split at e
      · rename_i q hq
        simp only [Option.some.injEq] at e
        subst e
        simp only [VR] at h1
        rw [h1, u8s_ok _ _ _ h2 hq]
        rfl
      · cases e
    · cases e

def strOf (l : List Int) : ByteArray := l.foldl (fun r n => r.push (UInt8.ofNat n.toNat)) ByteArray.empty

def convertA (E : Env) (M : Mem) (s d : TypeId) (x : AV) : Option AV :=
  match x with
  | .slice b off len _ _ => match E.P.underlying s with
    | some (.slice e) => match E.P.underlying e with
      | some (.int .u8) => match E.P.underlying d with
        | some .string => match readA M b off len with
          | some vs => match u8s vs with
            | some l => some (.lit (.string (strOf l)))
            | none => none
          | none => none
        | _ => none
      | _ => none
    | _ => none
  | .ptr b off => match E.P.underlying s with
    | some (.pointer t) => match E.P.underlying d with
      | some .unsafePointer => match E.P.info? t with
        | some i => match M.bl.get b with
          | some (.cells _ n _ _ _ _) => cond (Nat.blt off n && Nat.blt 0 i.size) (some (.ptr b off)) none
          | _ => none
        | none => none
      | _ => none
    | some .unsafePointer => match E.P.underlying d with
      | some (.pointer u) => match E.P.info? u with
        | some _ => match M.bl.get b with
          | some (.cells elem n _ false _ _) => cond (liesAt E.P E.P.depth elem (n / E.P.cellsOf elem) off u 1) (some (.ptr b off)) none
          | _ => none
        | none => none
      | _ => none
    | _ => none
  | _ => none

theorem convertA_ok {E : Env} {base : Nat} {ρ : Place} {M : Mem} {w : World} (hc : Cons E base ρ M w) {s d : TypeId} {x v : AV} {y : Value} (hx : VR ρ x y) (h : convertA E M s d x = some v) :
    ∃ z, (convert s d y).run E.P w = .ok z w ∧ VR ρ v z := by
  unfold convertA at h
  split at h
  · rename_i b off len cap esz
    split at h
    · rename_i e hs
      split at h
      · rename_i he
        split at h
        · rename_i hd
          split at h
          · rename_i vs hvs
            split at h
            · rename_i l hl
              simp only [Option.some.injEq] at h
              subst h
              simp only [VR] at hx
              obtain ⟨lc, c, hlc, rfl, _⟩ := hx
              obtain ⟨l', xs, k1, k2, k3, k4⟩ := readA_ok hc hvs
              rw [hlc, Option.some.injEq] at k1
              subst k1
              have hxs := u8s_ok _ _ _ k3 hl
              refine ⟨.string (strOf l), ?_, by simp [VR]⟩
              rw [run_convert_bytes_string w s d e _ len c hs he hd]
              refine run_bytesToString w _ len c l ?_
              have := run_loadCells_list (P := E.P) w ⟨lc.blk, lc.off + off, none⟩ xs (fun j u hj => by rw [addr_add]; exact k4 j u hj)
              rw [k2] at this
              rw [this, hxs]
            · cases h
          · cases h
        · cases h
      · cases h
    · cases h
  · rename_i b off
    split at h
    · rename_i t hs
      split at h
      · rename_i hd
        split at h
        · rename_i i hi
          split at h
          · rename_i e n cs row fz back hb
            cases hq : (Nat.blt off n && Nat.blt 0 i.size) with
            | false => rw [hq] at h; simp at h
            | true =>
              rw [hq] at h
              simp only [cond_true, Option.some.injEq] at h
              subst h
              simp only [Bool.and_eq_true, Nat.blt_eq] at hq
              have hx0 := hx
              simp only [VR] at hx
              obtain ⟨l, hl, rfl⟩ := hx
              obtain ⟨l', hl', arr, lo, hi', h1, h0, h2, h3, h4, h5, h6, h7⟩ := hc.blk b _ hb
              rw [hl, Option.some.injEq] at hl'
              subst hl'
              have hsh : w.shape? l.blk = some (e, arr.size) := by simp only [World.shape?, h1]
              exact ⟨_, Lib.run_to_unsafe w _ hs hd hi (by omega) hsh (by simp only []; omega), hx0⟩
          · cases h
        · cases h
      · cases h
    · rename_i hs
      split at h
      · rename_i u hd
        split at h
        · rename_i i hi
          split at h
          · rename_i e n cs fz back hb
            cases hq : liesAt E.P E.P.depth e (n / E.P.cellsOf e) off u 1 with
            | false => rw [hq] at h; simp at h
            | true =>
              rw [hq] at h
              simp only [cond_true, Option.some.injEq] at h
              subst h
              have hx0 := hx
              simp only [VR] at hx
              obtain ⟨l, hl, rfl⟩ := hx
              obtain ⟨l', hl', arr, lo, hi', h1, h0, h2, h3, h4, h5, h6, h7⟩ := hc.blk b _ hb
              rw [hl, Option.some.injEq] at hl'
              subst hl'
              have hsh : w.shape? l.blk = some (e, n) := by simp only [World.shape?, h1, h4 rfl]
              exact ⟨_, Lib.run_from_unsafe w _ hs hd hi hsh (by simp only [h0, Nat.zero_add]; exact hq), hx0⟩
          · cases h
        · cases h
      · cases h
    · cases h
  · cases h

/-! Calls that only read. -/

def lits : List AV → Option (List Value)
  | [] => some []
  | a :: as => match a.lit? with
    | some v => match lits as with
      | some vs => some (v :: vs)
      | none => none
    | none => none

theorem lits_ok {ρ : Place} : ∀ (a : List AV) (w l : List Value), VRs ρ a w → lits a = some l → w = l
  | [], w, l, h, e => by simp only [lits, Option.some.injEq] at e; subst e; simpa [VRs] using h
  | a :: as, w, l, h, e => by
    simp only [VRs] at h
    obtain ⟨x, xs, rfl, h1, h2⟩ := h
    simp only [lits] at e
    split at e
    · rename_i v hv
      split at e
      · rename_i vs hvs
        simp only [Option.some.injEq] at e
        subst e
        rw [h1.lit _ _ _ hv, lits_ok _ _ _ h2 hvs]
      · cases e
    · cases e

def extQ (E : Env) (k : Nat) (args : List AV) : Option AV :=
  match k with
  | 0 => match args with
    | [x] => some x
    | _ => none
  | _ => match lits args with
    | some l => match pureRun E.P (extSem E.bt k l.toArray) with
      | some v => some (.lit v)
      | none => none
    | none => none

theorem extQ_ok {E : Env} {ρ : Place} {k : Nat} {args : List AV} {xs : List Value} {v : AV} (hx : VRs ρ args xs) (h : extQ E k args = some v) (w : World) :
    ∃ z, ((do pure (.value (← extSem E.bt k xs.toArray))) : Sem Next).run E.P w = .ok (.value z) w ∧ VR ρ v z := by
  unfold extQ at h
  split at h
  · split at h
    · rename_i x
      simp only [Option.some.injEq] at h
      subst h
      simp only [VRs] at hx
      obtain ⟨y, ys, rfl, h1, rfl⟩ := hx
      exact ⟨y, rfl, h1⟩
    · cases h
  · split at h
    · rename_i l hl
      split at h
      · rename_i y hy
        simp only [Option.some.injEq] at h
        subst h
        rw [lits_ok _ _ _ hx hl]
        exact ⟨y, by simp only [Sem.run_bind, pureRun_run _ _ hy w, Result.andThen_ok, Sem.run_pure], by simp [VR]⟩
      · cases h
    · cases h

def callQ (E : Env) (F : T AV) (c : Call) : Option AV :=
  match c.callee with
  | .builtin .len => match c.argTypes[0]? with
    | some t => match E.P.underlying t with
      | some (.slice _) => match c.args.toList.map (opd F) with
        | [.slice _ _ len _ _] => some (.lit (.int .i64 len))
        | [.eslice] => some (.lit (.int .i64 0))
        | _ => none
      | _ => none
    | none => none
  | .builtin .cap => match c.argTypes[0]? with
    | some t => match E.P.underlying t with
      | some (.slice _) => match c.args.toList.map (opd F) with
        | [.slice _ _ _ (some n) _] => some (.lit (.int .i64 n))
        | _ => none
      | _ => none
    | none => none
  | .builtin .unsafeSliceData => match c.args.toList.map (opd F) with
    | [.slice b off (_ + 1) none _] => some (.ptr b off)
    | [.slice b off _ (some (_ + 1)) _] => some (.ptr b off)
    | _ => none
  | .value (.func f) => match E.ext.get f with
    | some k => extQ E k (c.args.toList.map (opd F))
    | none => none
  | _ => none

theorem exec_builtin {P : Program} {ρ : Operand → Value} {c : Call} {b : Builtin} {o : Oper} (ho : o.op = .call c) (hb : c.callee = .builtin b) (w : World) :
    ∃ consts, (execOp ρ o).run P w = (builtin b c.argTypes o.type consts (c.args.map ρ)).run P w := by
  unfold execOp
  simp only [ho, resolve, hb, Sem.run_bind, Sem.run_pure, Result.andThen_ok, invoke]
  exact ⟨_, rfl⟩

theorem exec_func {P : Program} {ρ : Operand → Value} {c : Call} {f : FuncId} {o : Oper} (ho : o.op = .call c) (hb : c.callee = .value (.func f)) (hρ : ρ (.func f) = .func (.func f) #[] #[]) (w : World) :
    (execOp ρ o).run P w = (callFunc f (c.args.map ρ)).run P w := by
  unfold execOp
  simp only [ho, resolve, hb, hρ, Deferred.ofValue, Sem.run_bind, Sem.run_pure, Result.andThen_ok, invoke]
  simp

theorem callQ_ok {E : Env} (OK : E.OK) {ρ : Place} {F : T AV} {n : Nat} {a : Act} (hf : FR ρ F n a) {o : Oper} {c : Call} (ho : o.op = .call c) {v : AV} (h : callQ E F c = some v) (w : World) :
    ∃ z, (execOp a.eval o).run E.P w = .ok (.value z) w ∧ VR ρ v z := by
  have hargs := hf.evals c.args.toList
  have hmap : (c.args.map a.eval).toList = c.args.toList.map a.eval := by simp
  unfold callQ at h
  split at h
  · rename_i hcal
    obtain ⟨consts, hex⟩ := exec_builtin (ρ := a.eval) (P := E.P) ho hcal w
    rw [hex]
    split at h
    · rename_i t ht
      split at h
      · rename_i e hu
        split at h
        · rename_i b off len cap esz heq
          simp only [Option.some.injEq] at h
          subst h
          rw [heq] at hargs
          simp only [VRs] at hargs
          obtain ⟨y, ys, h1, h2, rfl⟩ := hargs
          simp only [VR] at h2
          obtain ⟨l, c', hl, rfl, _⟩ := h2
          have harr : c.args.map a.eval = #[.slice (some ⟨l.blk, l.off + off, none⟩) len c'] := Array.ext' (by rw [hmap, h1])
          refine ⟨.int .i64 len, ?_, by simp [VR]⟩
          rw [harr]
          simp [builtin, Builtin.len_, ht, run_underlying hu, goInt]
        · rename_i heq
          simp only [Option.some.injEq] at h
          subst h
          rw [heq] at hargs
          simp only [VRs] at hargs
          obtain ⟨y, ys, h1, h2, rfl⟩ := hargs
          simp only [VR] at h2
          obtain ⟨p, c', rfl⟩ := h2
          have harr : c.args.map a.eval = #[.slice (some p) 0 c'] := Array.ext' (by rw [hmap, h1])
          refine ⟨.int .i64 0, ?_, by simp [VR]⟩
          rw [harr]
          simp [builtin, Builtin.len_, ht, run_underlying hu, goInt]
        · cases h
      · cases h
    · cases h
  · rename_i hcal
    obtain ⟨consts, hex⟩ := exec_builtin (ρ := a.eval) (P := E.P) ho hcal w
    rw [hex]
    split at h
    · rename_i t ht
      split at h
      · rename_i e hu
        split at h
        · rename_i b off len cap esz heq
          simp only [Option.some.injEq] at h
          subst h
          rw [heq] at hargs
          simp only [VRs] at hargs
          obtain ⟨y, ys, h1, h2, rfl⟩ := hargs
          simp only [VR] at h2
          obtain ⟨l, c', hl, rfl, rfl⟩ := h2
          have harr : c.args.map a.eval = #[.slice (some ⟨l.blk, l.off + off, none⟩) len c'] := Array.ext' (by rw [hmap, h1])
          refine ⟨.int .i64 c', ?_, by simp [VR]⟩
          rw [harr]
          simp [builtin, Builtin.cap_, ht, run_underlying hu, goInt]
        · cases h
      · cases h
    · cases h
  · rename_i hcal
    obtain ⟨consts, hex⟩ := exec_builtin (ρ := a.eval) (P := E.P) ho hcal w
    rw [hex]
    split at h
    · rename_i b off len esz heq
      simp only [Option.some.injEq] at h
      subst h
      rw [heq] at hargs
      simp only [VRs] at hargs
      obtain ⟨y, ys, h1, h2, rfl⟩ := hargs
      simp only [VR] at h2
      obtain ⟨l, c', hl, rfl, hcap⟩ := h2
      have harr : c.args.map a.eval = #[.slice (some ⟨l.blk, l.off + off, none⟩) (len + 1) c'] := Array.ext' (by rw [hmap, h1])
      refine ⟨.pointer (some ⟨l.blk, l.off + off, none⟩), ?_, by simp only [VR]; exact ⟨l, hl, rfl⟩⟩
      rw [harr]
      simp only [builtin, Sem.run_bind, Lib.run_unsafeSliceData_row w _ _ _ _ _ (show c' ≠ 0 by omega), Result.andThen_ok, Sem.run_pure]
    · rename_i b off len cap esz heq
      simp only [Option.some.injEq] at h
      subst h
      rw [heq] at hargs
      simp only [VRs] at hargs
      obtain ⟨y, ys, h1, h2, rfl⟩ := hargs
      simp only [VR] at h2
      obtain ⟨l, c', hl, rfl, rfl⟩ := h2
      have harr : c.args.map a.eval = #[.slice (some ⟨l.blk, l.off + off, none⟩) len (cap + 1)] := Array.ext' (by rw [hmap, h1])
      refine ⟨.pointer (some ⟨l.blk, l.off + off, none⟩), ?_, by simp only [VR]; exact ⟨l, hl, rfl⟩⟩
      rw [harr]
      simp only [builtin, Sem.run_bind, Lib.run_unsafeSliceData_row w _ _ _ _ _ (show cap + 1 ≠ 0 by omega), Result.andThen_ok, Sem.run_pure]
    · cases h
  · rename_i f hcal
    split at h
    · rename_i k hk
      obtain ⟨z, hz, hv⟩ := extQ_ok hargs h w
      refine ⟨z, ?_, hv⟩
      rw [exec_func ho hcal rfl, OK.ext f k hk]
      have : c.args.map a.eval = (c.args.toList.map a.eval).toArray := Array.ext' (by simp)
      rw [this]
      exact hz
    · cases h
  · cases h

/-! Quiet operations, all of them. -/

def nilOk : AV → Bool
  | .ptr .. => true
  | .mapp _ => true
  | .iface .. => true
  | .func (.func _) _ _ => true
  | _ => false

def partsA (F : T AV) : List (Nat × Operand) → List (Nat × AV)
  | [] => []
  | (i, x) :: r => (i, opd F x) :: partsA F r

theorem partsA_ok {ρ : Place} {F : T AV} {n : Nat} {a : Act} (hf : FR ρ F n a) : ∀ (l : List (Nat × Operand)),
    (partsA F l).map (·.1) = (l.map fun p => (p.1, a.eval p.2)).map (·.1) ∧ VRs ρ ((partsA F l).map (·.2)) ((l.map fun p => (p.1, a.eval p.2)).map (·.2))
  | [] => by simp [partsA, VRs]
  | (i, x) :: r => by
    obtain ⟨h1, h2⟩ := partsA_ok hf r
    refine ⟨by simp only [partsA, List.map_cons, h1], ?_⟩
    simp only [partsA, List.map_cons, VRs]
    exact ⟨_, _, rfl, hf.eval x, h2⟩

/-- May the operation be tried with literal operands? -/
def litOk : Op → Bool
  | .select .. => false
  | .call c => match c.callee with
    | .builtin _ => true
    | _ => false
  | .go _ => false
  | .defer _ => false
  | _ => true

/-- The length of a map. -/
def mapLenQ (E : Env) (M : Mem) (F : T AV) (c : Call) : Option AV :=
  match c.callee with
  | .builtin .len => match c.argTypes[0]? with
    | some t => match c.args.toList with
      | [x] => mapLenA E.P M t (opd F x)
      | _ => none
    | none => none
  | _ => none

theorem mapLenQ_ok {E : Env} {base : Nat} {ρ : Place} {M : Mem} {w : World} (hc : Cons E base ρ M w) {F : T AV} {n : Nat} {a : Act} (hf : FR ρ F n a) {o : Oper} {c : Call} (ho : o.op = .call c) {v : AV}
    (h : mapLenQ E M F c = some v) : ∃ x, (execOp a.eval o).run E.P w = .ok (.value x) w ∧ VR ρ v x := by
  unfold mapLenQ at h
  split at h
  · rename_i hcal
    obtain ⟨consts, hex⟩ := exec_builtin (ρ := a.eval) (P := E.P) ho hcal w
    split at h
    · rename_i t ht
      split at h
      · rename_i x hx
        obtain ⟨z, h1, h2⟩ := mapLenA_ok (u := o.type) hc ht (hf.eval x) h
        have harr : c.args.map a.eval = #[a.eval x] := Array.ext' (by rw [Array.toList_map, hx]; rfl)
        refine ⟨z, ?_, h2⟩
        rw [hex, harr]
        simp only [builtin, Sem.run_bind, h1, Result.andThen_ok, Sem.run_pure]
      · cases h
    · cases h
  · cases h

def quietB (E : Env) (M : Mem) (F : T AV) (o : Oper) : Option AV :=
  match o.op with
  | .pick c x y => match opd F c with
    | .lit (.bool t) => some (cond t (opd F x) (opd F y))
    | _ => none
  | .nilCheck x => cond (nilOk (opd F x)) (some (opd F x)) none
  | .makeInterface t x => match E.P.underlying t with
    | some (.interface _) => none
    | some _ => some (.iface t (opd F x))
    | none => none
  | .makeFunc fn f c => some (.func fn (f.toList.map (opd F)) (c.toList.map (opd F)))
  | .fieldAddr s x f => fieldAddrA E.P s (opd F x) f
  | .field t x f => fieldA E.P t (opd F x) f
  | .indexAddr t x i => indexAddrA E.P t (opd F x) (opd F i)
  | .index t x i => indexA E.P t (opd F x) (opd F i)
  | .slice t x lo hi none => sliceA E.P F t (opd F x) lo hi
  | .extract x i => match opd F x with
    | .tuple vs => vs[i]?
    | _ => none
  | .build t parts => buildA E.P t (partsA F parts.toList)
  | .typeAssert x _ t ok => typeAssertA E.P (opd F x) t ok
  | .binOp .eql t x y _ => match eqA E.P t (opd F x) (opd F y) with
    | some b => some (.lit (.bool b))
    | none => none
  | .binOp .neq t x y _ => match eqA E.P t (opd F x) (opd F y) with
    | some b => some (.lit (.bool !b))
    | none => none
  | .convert s d x => convertA E M s d (opd F x)
  | .lookup t x i ok => lookupA E.P M t (opd F x) (opd F i) ok
  | .call c => match callQ E F c with
    | some v => some v
    | none => mapLenQ E M F c
  | _ => none

/-! Comparisons of whole numbers, so that the kernel steps through them though one of them be open. -/

def ltI : Int → Int → Bool
  | .ofNat a, .ofNat b => Nat.blt a b
  | .ofNat _, .negSucc _ => false
  | .negSucc _, .ofNat _ => true
  | .negSucc a, .negSucc b => Nat.blt b a

def eqI : Int → Int → Bool
  | .ofNat a, .ofNat b => Nat.beq a b
  | .negSucc a, .negSucc b => Nat.beq a b
  | _, _ => false

theorem ltI_eq (a b : Int) : ltI a b = decide (a < b) := by
  cases a <;> cases b <;> simp only [ltI] <;> rw [Bool.eq_iff_iff] <;> simp only [Nat.blt_eq, decide_eq_true_eq, Bool.false_eq_true, false_iff, true_iff, Int.ofNat_eq_natCast] <;> omega

theorem eqI_eq (a b : Int) : eqI a b = (a == b) := by
  cases a <;> cases b <;> simp only [eqI] <;> rw [Bool.eq_iff_iff] <;> simp only [Nat.beq_eq, beq_iff_eq, Bool.false_eq_true, false_iff, Int.ofNat_eq_natCast] <;> omega

def cmpI : BinOp → Int → Int → Option Bool
  | .lss, a, b => some (ltI a b)
  | .leq, a, b => some (!ltI b a)
  | .gtr, a, b => some (ltI b a)
  | .geq, a, b => some (!ltI a b)
  | .eql, a, b => some (eqI a b)
  | .neq, a, b => some (!eqI a b)
  | _, _, _ => none

theorem cmpI_run {P : Program} {op : BinOp} {t : TypeId} {x y : Operand} {k : IntKind} {a b : Int} {c : Bool} (h : cmpI op a b = some c) (w : World) :
    ((do eqGuard op t x y (.int k a) (.int k b); binOp op t (.int k a) (.int k b)) : Sem Value).run P w = .ok (.bool c) w := by
  cases op <;> simp only [cmpI, Option.some.injEq, reduceCtorEq] at h <;> subst h <;>
    simp [eqGuard, binOp, Op.intCmp, Sem.run_pure, ltI_eq, eqI_eq]
  all_goals (rw [Bool.eq_iff_iff]; simp)

def cmpA (F : T AV) : Op → Option AV
  | .binOp op _ x y _ => match opd F x, opd F y with
    | .lit (.int k a), .lit (.int k' b) => match decide (k = k') with
      | true => match cmpI op a b with
        | some c => some (.lit (.bool c))
        | none => none
      | false => none
    | _, _ => none
  | _ => none

theorem cmpA_ok {P : Program} {ρ : Place} {F : T AV} {n : Nat} {a : Act} (hf : FR ρ F n a) {o : Oper} {v : AV} (h : cmpA F o.op = some v) (w : World) :
    ∃ x, (execOp a.eval o).run P w = .ok (.value x) w ∧ VR ρ v x := by
  unfold cmpA at h
  split at h
  · rename_i op t x y _ ho
    have hx := hf.eval x
    have hy := hf.eval y
    split at h
    · rename_i k p k' q ex ey
      rw [ex] at hx
      rw [ey] at hy
      simp only [VR] at hx hy
      split at h
      · rename_i hk
        have hk := of_decide_eq_true hk
        subst hk
        split at h
        · rename_i c hc
          simp only [Option.some.injEq] at h
          subst h
          refine ⟨.bool c, ?_, by simp [VR]⟩
          unfold execOp
          simp only [ho, hx, hy]
          rw [Sem.run_bind, cmpI_run hc]
          rfl
        · cases h
      · cases h
    · cases h
  · cases h

def quiet (E : Env) (M : Mem) (F : T AV) (o : Oper) : Option AV :=
  match o.op with
  | .move x => some (opd F x)
  | .assign x => some (opd F x)
  | .load t p => loadA E M t (opd F p)
  | op => match cmpA F op with
    | some v => some v
    | none => match litOk op with
      | true => match litOp E.P F o with
        | some v => some v
        | none => quietB E M F o
      | false => quietB E M F o

theorem quietB_ok {E : Env} (OK : E.OK) {base : Nat} {ρ : Place} {M : Mem} {w : World} (hc : Cons E base ρ M w) {F : T AV} {n : Nat} {a : Act} (hf : FR ρ F n a) {o : Oper} {v : AV}
    (h : quietB E M F o = some v) : ∃ x, (execOp a.eval o).run E.P w = .ok (.value x) w ∧ VR ρ v x := by
  unfold quietB at h
  split at h
  · rename_i c x y ho
    have hv := hf.eval c
    split at h
    · rename_i t ht
      rw [ht] at hv
      simp only [VR] at hv
      simp only [Option.some.injEq] at h
      subst h
      cases t with
      | true => exact ⟨a.eval x, by unfold execOp; simp [ho, hv, asBool], by simpa using hf.eval x⟩
      | false => exact ⟨a.eval y, by unfold execOp; simp [ho, hv, asBool], by simpa using hf.eval y⟩
    · cases h
  · rename_i x ho
    have hv := hf.eval x
    revert h hv
    generalize opd F x = q
    intro h hv
    cases hq : nilOk q with
    | false => rw [hq] at h; simp at h
    | true =>
      rw [hq] at h
      simp only [cond_true, Option.some.injEq] at h
      subst h
      refine ⟨a.eval x, ?_, hv⟩
      unfold execOp
      simp only [ho]
      unfold nilOk at hq
      split at hq
      · simp only [VR] at hv; obtain ⟨l, _, e⟩ := hv; rw [e]; rfl
      · simp only [VR] at hv; obtain ⟨l, _, e⟩ := hv; rw [e]; rfl
      · simp only [VR] at hv; obtain ⟨l, e, _⟩ := hv; rw [e]; rfl
      · simp only [VR] at hv; obtain ⟨f', c', e, _⟩ := hv; rw [e]; rfl
      · cases hq
  · rename_i t x ho
    split at h
    · cases h
    · rename_i d hd hne
      simp only [Option.some.injEq] at h
      subst h
      refine ⟨.iface t (a.eval x), ?_, by simp only [VR]; exact ⟨_, rfl, hf.eval x⟩⟩
      unfold execOp
      simp only [ho, Instr.makeInterface, Sem.run_bind, run_underlying hne, Result.andThen_ok]
      cases d <;> first | (exact absurd rfl (hd _)) | rfl
    · cases h
  · rename_i fn f c ho
    simp only [Option.some.injEq] at h
    subst h
    refine ⟨.func fn (f.map a.eval) (c.map a.eval), by unfold execOp; simp [ho, Instr.makeFunc], ?_⟩
    simp only [VR]
    exact ⟨_, _, rfl, by simpa using hf.evals f.toList, by simpa using hf.evals c.toList⟩
  · rename_i s x f ho
    obtain ⟨y, hy, hv⟩ := fieldAddrA_ok (hf.eval x) h w
    exact ⟨y, by unfold execOp; simp [ho, hy], hv⟩
  · rename_i t x f ho
    obtain ⟨y, hy, hv⟩ := fieldA_ok (hf.eval x) h w
    exact ⟨y, by unfold execOp; simp [ho, hy], hv⟩
  · rename_i t x i ho
    obtain ⟨y, hy, hv⟩ := indexAddrA_ok (hf.eval x) (hf.eval i) h w
    exact ⟨y, by unfold execOp; simp [ho, hy], hv⟩
  · rename_i t x i ho
    obtain ⟨y, hy, hv⟩ := indexA_ok (hf.eval x) (hf.eval i) h w
    exact ⟨y, by unfold execOp; simp [ho, hy], hv⟩
  · rename_i t x lo hi ho
    obtain ⟨y, hy, hv⟩ := sliceA_ok hf (hf.eval x) h w
    exact ⟨y, by unfold execOp; simp [ho, hy], hv⟩
  · rename_i x i ho
    have hv := hf.eval x
    split at h
    · rename_i vs hvs
      rw [hvs] at hv
      simp only [VR] at hv
      obtain ⟨arr, e, hr⟩ := hv
      obtain ⟨y, hy, hvy⟩ := hr.get i v h
      have hy' : arr[i]? = some y := by simpa using hy
      exact ⟨y, by unfold execOp; simp [ho, e, Instr.extract, hy'], hvy⟩
    · cases h
  · rename_i t parts ho
    obtain ⟨p1, p2⟩ := partsA_ok hf parts.toList
    obtain ⟨y, hy, hv⟩ := buildA_ok (vals := parts.map fun (i, x) => (i, a.eval x)) (by simpa using p1) (by simpa using p2) h w
    exact ⟨y, by unfold execOp; simp [ho, hy], hv⟩
  · rename_i x xt t ok ho
    obtain ⟨y, hy, hv⟩ := typeAssertA_ok (xt := xt) (hf.eval x) h w
    exact ⟨y, by unfold execOp; simp [ho, hy], hv⟩
  · rename_i t x y _ ho
    split at h
    · rename_i b hb
      simp only [Option.some.injEq] at h
      subst h
      have := (eqA_ok (p := x) (q := y) (hf.eval x) (hf.eval y) hb w).1
      refine ⟨.bool b, ?_, by simp [VR]⟩
      unfold execOp
      simp only [ho]
      rw [Sem.run_bind, this]
      rfl
    · cases h
  · rename_i t x y _ ho
    split at h
    · rename_i b hb
      simp only [Option.some.injEq] at h
      subst h
      have := (eqA_ok (p := x) (q := y) (hf.eval x) (hf.eval y) hb w).2
      refine ⟨.bool !b, ?_, by simp [VR]⟩
      unfold execOp
      simp only [ho]
      rw [Sem.run_bind, this]
      rfl
    · cases h
  · rename_i s d x ho
    obtain ⟨y, hy, hv⟩ := convertA_ok hc (hf.eval x) h
    exact ⟨y, by unfold execOp; simp [ho, hy], hv⟩
  · rename_i t x i ok ho
    obtain ⟨y, hy, hv⟩ := lookupA_ok hc (hf.eval x) (hf.eval i) h
    exact ⟨y, by unfold execOp; simp [ho, hy], hv⟩
  · rename_i c ho
    split at h
    · rename_i u hu
      simp only [Option.some.injEq] at h
      subst h
      exact callQ_ok OK hf ho hu w
    · exact mapLenQ_ok hc hf ho h
  · cases h

theorem quiet_ok {E : Env} (OK : E.OK) {base : Nat} {ρ : Place} {M : Mem} {w : World} (hc : Cons E base ρ M w) {F : T AV} {n : Nat} {a : Act} (hf : FR ρ F n a) {o : Oper} {v : AV}
    (h : quiet E M F o = some v) : ∃ x, (execOp a.eval o).run E.P w = .ok (.value x) w ∧ VR ρ v x := by
  unfold quiet at h
  split at h
  · rename_i x ho
    simp only [Option.some.injEq] at h
    subst h
    exact ⟨a.eval x, by unfold execOp; simp [ho], hf.eval x⟩
  · rename_i x ho
    simp only [Option.some.injEq] at h
    subst h
    exact ⟨a.eval x, by unfold execOp; simp [ho], hf.eval x⟩
  · rename_i t p ho
    obtain ⟨y, hy, hv⟩ := loadA_ok hc (hf.eval p) h
    exact ⟨y, by unfold execOp; simp [ho, hy], hv⟩
  · split at h
    · rename_i u hu
      simp only [Option.some.injEq] at h
      subst h
      exact cmpA_ok hf hu w
    · split at h
      · split at h
        · rename_i u hu
          simp only [Option.some.injEq] at h
          subst h
          exact litOp_ok hf hu w
        · exact quietB_ok OK hc hf h
      · exact quietB_ok OK hc hf h

end Go.Proofs.YtiamenedboifeaaGreatDoor.Rx

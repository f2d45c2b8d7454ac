/- A reflective evaluator of the model's code, part Z: single operations on memory that was there before: a slice's length, an element's place, an element. -/
import Derived.Test.YtiamenedboifeabGreatDoorRxY
namespace Go.Proofs.YtiamenedboifeabGreatDoor.Rx
open Go.Instr

theorem hook_len {P : Program} {o : Oper} {c : Call} {t e : TypeId} {x : Operand} (ho : o.op = .call c) (hc : c.callee = .builtin .len) (ht : c.argTypes.toList = [t]) (hx : c.args.toList = [x]) (hu : P.underlying t = some (.slice e))
    {ev : Operand → Value} {a : Option Addr} {n m : Nat} (hv : ev x = .slice a n m) (w : World) : (execOp ev o).run P w = .ok (.value (.int .i64 n)) w := by
  obtain ⟨consts, hex⟩ := exec_builtin (ρ := ev) (P := P) ho hc w
  have ht' : c.argTypes = #[t] := Array.ext' (by simpa using ht)
  have hx' : c.args = #[x] := Array.ext' (by simpa using hx)
  rw [hex, ht', hx']
  simp [builtin, Builtin.len_, run_underlying hu, goInt, hv]

theorem hook_index {P : Program} {o : Oper} {t e : TypeId} {x i : Operand} {inf : TypeInfo} (ho : o.op = .indexAddr t x i) (hu : P.underlying t = some (.slice e)) (hi : P.info? e = some inf)
    {ev : Operand → Value} {b off n m : Nat} {j : Nat} {k : IntKind} (hv : ev x = .slice (some ⟨b, off, none⟩) n m) (hj : ev i = .int k j) (hlt : j < n) (w : World) :
    (execOp ev o).run P w = .ok (.value (.pointer (some ⟨b, off + j * inf.size, none⟩))) w := by
  have hb : (0 : Int) ≤ (j : Int) ∧ (j : Int) < (n : Int) := by omega
  unfold execOp
  simp [ho, hv, hj, indexAt, asIntOf, run_underlying hu, run_sizeOf hi, addr_add]
  intro h
  omega

theorem hook_load {P : Program} {o : Oper} {t : TypeId} {p : Operand} {d : TypeDesc} {inf : TypeInfo} (ho : o.op = .load t p) (hu : P.underlying t = some d) (hd : d.isRow = true) (hi : P.info? t = some inf)
    {ev : Operand → Value} {b off : Nat} {cs : List Value} (hn : inf.size = cs.length) (hv : ev p = .pointer (some ⟨b, off, none⟩)) {w : World} (hc : w.rangeAt b off cs) :
    (execOp ev o).run P w = .ok (.value (.agg cs.toArray)) w := by
  unfold execOp
  simp [ho, hv, run_loadAt_mid w b off t cs d hc hu hd (by simp [hi, hn])]

/-! Numbers of 64 bits. -/

theorem read64 (b : Nat) : Ieee.double.read b =
    if b % 9223372036854775808 < 4503599627370496 then .number (b / 9223372036854775808 % 2 == 1) (b % 9223372036854775808) (-1074)
    else if b % 9223372036854775808 < 9218868437227405312 then
      .number (b / 9223372036854775808 % 2 == 1) (4503599627370496 + b % 9223372036854775808 % 4503599627370496) (-1074 + (b % 9223372036854775808 / 4503599627370496 - 1 : Nat))
    else if b % 9223372036854775808 = 9218868437227405312 then .infinity (b / 9223372036854775808 % 2 == 1)
    else .nan (b / 9223372036854775808 % 2 == 1) (b % 9223372036854775808 - 9218868437227405312) := rfl

theorem order_nan {b : Nat} (h : 9218868437227405312 < b % 9223372036854775808) (y : Nat) : FloatKind.f64.format.order b y = none := by
  show (Ieee.Datum.order (Ieee.double.read b) (Ieee.double.read y)) = none
  rw [read64 b, if_neg (by omega), if_neg (by omega), if_neg (by omega)]
  rfl

theorem nan_sub {P : Program} {o : Oper} {t ty : TypeId} {x y : Operand} (ho : o.op = .binOp .sub t x y ty) {e : Operand → Value} {a b : Nat} (hx : e x = .float .f64 a) (hy : e y = .float .f64 b)
    (hs : FloatKind.f64.format.sub a b = none) {ρ : Place} (w : World) : ∃ z w', (execOp e o).run P w = .ok (.value z) w' ∧ VR ρ .nan z ∧ w'.heap = w.heap ∧ w'.os = w.os ∧ w'.tape = w.tape ∧ w'.output = w.output := by
  have hg : eqGuard .sub t x y (.float .f64 a) (.float .f64 b) = pure () := by unfold eqGuard; rfl
  refine ⟨.float .f64 ((Question.nanBits .f64 a b).cut (w.tape w.drawn (.nanBits .f64 a b))), { w with drawn := w.drawn + 1 }, ?_, ?_, rfl, rfl, rfl, rfl⟩
  · unfold execOp
    simp only [ho, hx, hy, hg]
    simp [Go.binOp, Op.floatArith, hs, Question.forced]
  · simp only [VR]
    refine ⟨_, rfl, fun y => order_nan ?_ y⟩
    simp only [Question.cut]
    generalize w.tape w.drawn (Question.nanBits FloatKind.f64 a b) = t
    have h1 : t / 2 % (2 ^ 52 - 1) < 2 ^ 52 - 1 := Nat.mod_lt _ (by decide)
    have h2 : t % 2 < 2 := Nat.mod_lt _ (by decide)
    generalize t / 2 % (2 ^ 52 - 1) = u at h1 ⊢
    generalize t % 2 = v at h2 ⊢
    have e : v * 2 ^ 63 + 9218868437227405312 + 1 + u = v * 9223372036854775808 + 9218868437227405312 + 1 + u := rfl
    have h1 : u < 4503599627370495 := h1
    rw [e]
    omega

theorem abs_bits (v : Nat) : evBin .andNot (.int .u64 v) (.int .u64 9223372036854775808) = some (.int .u64 (v % 9223372036854775808 : Nat)) := by
  have e : ((BitVec.ofInt 64 (v : Int)) &&& ~~~(BitVec.ofInt 64 9223372036854775808)).toNat = v % 9223372036854775808 := by
    have h1 : (~~~(BitVec.ofInt 64 9223372036854775808) : BitVec 64) = BitVec.ofNat 64 9223372036854775807 := by decide
    rw [h1, BitVec.toNat_and]
    have h2 : (BitVec.ofInt 64 (v : Int)).toNat = v % 18446744073709551616 := by
      rw [BitVec.ofInt_natCast, BitVec.toNat_ofNat]
    have h3 : (BitVec.ofNat 64 9223372036854775807).toNat = 2 ^ 63 - 1 := by decide
    rw [h2, h3, Nat.and_two_pow_sub_one_eq_mod]
    omega
  have w : IntKind.u64.wrap ((v % 9223372036854775808 : Nat) : Int) = ((v % 9223372036854775808 : Nat) : Int) := by
    have h1 : ((v % 9223372036854775808 : Nat) : Int) % (2 ^ 64 : Int) = ((v % 9223372036854775808 : Nat) : Int) := by
      have : (2 ^ 64 : Int) = 18446744073709551616 := rfl
      rw [this]; omega
    show (if (false && decide (((v % 9223372036854775808 : Nat) : Int) % (2 ^ 64 : Int) ≥ (2 ^ 63 : Int))) = true then ((v % 9223372036854775808 : Nat) : Int) % (2 ^ 64 : Int) - (2 ^ 64 : Int) else ((v % 9223372036854775808 : Nat) : Int) % (2 ^ 64 : Int)) = _
    rw [h1, Bool.false_and, if_neg (by decide)]
  show pure0 (Op.intBits .andNot .u64 v 9223372036854775808) = _
  simp only [Op.intBits, pure, pure0]
  rw [show IntKind.u64.bits = 64 from rfl, e, w]
theorem order_fin {a b : Nat} {m n : Nat} {i j : Int} (ha : Ieee.double.read a = .number false m i) (hb : Ieee.double.read b = .number false n j) (hm : m ≤ n) (hi : i ≤ j) : FloatKind.f64.format.order a b ≠ some .gt := by
  show (Ieee.Datum.order (Ieee.double.read a) (Ieee.double.read b)) ≠ some .gt
  rw [ha, hb]
  simp only [Ieee.Datum.order, Ieee.signed, ne_eq, Option.some.injEq, Bool.false_eq_true, if_false]
  rw [show min i j = i by omega]
  intro h
  have h0 : (i - i).toNat = 0 := by omega
  rw [h0, Nat.shiftLeft_zero] at h
  have : n ≤ n <<< (j - i).toNat := by rw [Nat.shiftLeft_eq]; exact Nat.le_mul_of_pos_right _ (Nat.two_pow_pos _)
  unfold compare at h
  simp only [instOrdInt, compareOfLessAndEq] at h
  split at h
  · cases h
  · split at h
    · cases h
    · omega

theorem sub_fin {a : Nat} {s : Bool} {m : Nat} {i : Int} (ha : Ieee.double.read a = .number s m i) : FloatKind.f64.format.sub a a = some 0 := by
  show ((Ieee.double.read a).sum (Ieee.double.read a).opposite).map Ieee.double.write = some 0
  rw [ha]
  have h0 : Ieee.signed s m (i - min i i).toNat + Ieee.signed (!s) m (i - min i i).toNat = 0 := by
    simp only [Ieee.signed]
    cases s <;> simp <;> omega
  simp only [Ieee.Datum.opposite, Ieee.Datum.sum, h0, if_true, Option.map_some]
  cases s <;> rfl

theorem order_self {a : Nat} {s : Bool} {m : Nat} {i : Int} (ha : Ieee.double.read a = .number s m i) : FloatKind.f64.format.order a a = some .eq := by
  show (Ieee.Datum.order (Ieee.double.read a) (Ieee.double.read a)) = some .eq
  rw [ha]
  simp only [Ieee.Datum.order, Option.some.injEq]
  unfold compare
  simp [instOrdInt, compareOfLessAndEq]

theorem order_nought {a : Nat} {s : Bool} {m : Nat} {i : Int} (ha : Ieee.double.read a = .number s m i) (hm : m ≠ 0) : FloatKind.f64.format.order a 0 ≠ some .eq := by
  show (Ieee.Datum.order (Ieee.double.read a) (Ieee.double.read 0)) ≠ some .eq
  have h0 : Ieee.double.read 0 = .number false 0 (-1074) := rfl
  rw [ha, h0]
  simp only [Ieee.Datum.order, ne_eq, Option.some.injEq]
  intro h
  have hpos : 0 < m <<< (i - min i (-1074)).toNat := by
    rw [Nat.shiftLeft_eq]
    exact Nat.mul_pos (by omega) (Nat.two_pow_pos _)
  unfold compare at h
  simp only [instOrdInt, compareOfLessAndEq, Ieee.signed, Nat.zero_shiftLeft, Bool.false_eq_true, if_false] at h
  cases s <;> simp at h <;> split at h <;> simp_all <;> omega
end Go.Proofs.YtiamenedboifeabGreatDoor.Rx

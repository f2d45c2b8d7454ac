/- The shortest decimal of a float, third part: every float above nought. -/
import Derived.Test.YtkeibmkcgnppeaaGreatDoorZFb
import Derived.Lib.AppendIntMem
import Derived.Laws.IdiomStrings
import Derived.Laws.MakeOwn
import Derived.Test.YtkeibmkcgnppeaaGreatDoorZRd
set_option maxHeartbeats 32000000
set_option linter.unusedSimpArgs false
set_option linter.unusedVariables false
namespace Go.Proofs.YtkeibmkcgnppeaaGreatDoor
open Go Go.RowKit Go.Sort
set_option maxRecDepth 100000
theorem pow_nDigits : ∀ (d : Nat), 1 ≤ d → 10 ^ (Lib.nDigits d - 1) ≤ d := by
  intro d
  induction d using Nat.strongRecOn with
  | ind d ih =>
    intro h
    by_cases h10 : d < 10
    · rw [Lib.nDigits_small h10]; simpa using h
    · rw [Lib.nDigits_big h10, Nat.add_sub_cancel]
      have h1 := ih (d / 10) (by omega) (by omega)
      have h2 := Lib.nDigits_pos (d / 10)
      obtain ⟨k, hk⟩ : ∃ k, Lib.nDigits (d / 10) = k + 1 := ⟨_, (Nat.succ_pred_eq_of_pos h2).symm⟩
      rw [hk] at h1 ⊢
      rw [Nat.add_sub_cancel] at h1
      rw [Nat.pow_succ]
      omega
theorem digit_at (d j : Nat) (hj : j < (Lib.decDigits d).length) : (Lib.decDigits d)[j].toNat = 48 + d / 10 ^ (Lib.nDigits d - 1 - j) % 10 := by
  have h : (Lib.decDigits d)[j] = Lib.dg d (Lib.nDigits d - 1 - j) := by
    have := Lib.decDigits_eq d
    simp only [this, List.getElem_map, List.getElem_range]
  rw [h]
  unfold Lib.dg
  rw [UInt8.toNat_ofNat']
  omega
theorem first_digit (d : Nat) (hd : 1 ≤ d) (h : 0 < (Lib.decDigits d).length) : (Lib.decDigits d)[0].toNat ≠ 48 := by
  rw [digit_at d 0 h, Nat.sub_zero]
  have h1 := pow_nDigits d hd
  have h2 := Lib.lt_pow_nDigits d
  have h3 := Lib.nDigits_pos d
  obtain ⟨k, hk⟩ : ∃ k, Lib.nDigits d = k + 1 := ⟨_, (Nat.succ_pred_eq_of_pos h3).symm⟩
  rw [hk] at h1 h2 ⊢
  rw [Nat.add_sub_cancel] at h1 ⊢
  rw [Nat.pow_succ] at h2
  have h4 : 1 ≤ d / 10 ^ k := (Nat.le_div_iff_mul_le (Nat.pow_pos (by decide))).2 (by omega)
  have h5 : d / 10 ^ k < 10 := (Nat.div_lt_iff_lt_mul (Nat.pow_pos (by decide))).2 (by rw [Nat.mul_comm]; exact h2)
  omega
theorem keptD_pos {l : List UInt8} (h0 : 0 < l.length) (hc : l[0].toNat ≠ 48) : ∀ n, 1 ≤ n → n ≤ l.length → 1 ≤ keptD l n
  | 0, h, _ => by omega
  | n + 1, _, hn => by
    by_cases h48 : l[n].toNat = 48
    · rw [keptD_nought hn h48]
      cases n with
      | zero => exact absurd h48 hc
      | succ n => exact keptD_pos h0 hc (n + 1) (by omega) (by omega)
    · rw [keptD_other hn h48]
      omega
theorem keptD_last {l : List UInt8} : ∀ (n k : Nat), n ≤ l.length → keptD l n = k + 1 → ∃ h : k < l.length, l[k].toNat ≠ 48
  | 0, k, _, h => by cases h
  | n + 1, k, hn, h => by
    by_cases h48 : l[n].toNat = 48
    · rw [keptD_nought hn h48] at h
      exact keptD_last n k (by omega) h
    · rw [keptD_other hn h48] at h
      have : n = k := by omega
      subst this
      exact ⟨hn, h48⟩
structure Dig (l : List UInt8) : Prop where
  pos : 1 ≤ l.length
  few : l.length ≤ 20
  dig : ∀ j (h : j < l.length), 48 ≤ l[j].toNat ∧ l[j].toNat ≤ 57
  head : ∀ h : 0 < l.length, l[0].toNat ≠ 48
  last : ∀ h : l.length - 1 < l.length, l[l.length - 1].toNat ≠ 48
def shown (d : Nat) : List UInt8 := (Lib.decDigits d).take (keptD (Lib.decDigits d) (Lib.nDigits d))
theorem shown_length (d : Nat) : (shown d).length = keptD (Lib.decDigits d) (Lib.nDigits d) := by
  have := keptD_le (Lib.decDigits d) (Lib.nDigits d)
  have h2 := Lib.decDigits_length d
  unfold shown
  rw [List.length_take]
  omega
theorem shown_at (d j : Nat) (h : j < (shown d).length) : ∃ h2 : j < (Lib.decDigits d).length, (shown d)[j] = (Lib.decDigits d)[j] := by
  have h1 := shown_length d
  have := keptD_le (Lib.decDigits d) (Lib.nDigits d)
  have h2 := Lib.decDigits_length d
  exact ⟨by omega, by simp only [shown, List.getElem_take]⟩
theorem shown_dig (d : Nat) (h1 : 1 ≤ d) (h2 : d < 18446744073709551616) : Dig (shown d) := by
  have hl := shown_length d
  have h20 := Lib.nDigits_le20 d h2
  have hp := Lib.nDigits_pos d
  have hdl := Lib.decDigits_length d
  have hle := keptD_le (Lib.decDigits d) (Lib.nDigits d)
  have hpos := keptD_pos (by omega) (first_digit d h1 (by omega)) (Lib.nDigits d) hp (by omega)
  refine ⟨by omega, by omega, fun j h => ?_, fun h => ?_, fun h => ?_⟩
  · obtain ⟨a, b⟩ := shown_at d j h
    rw [b, digit_at d j a]
    omega
  · obtain ⟨a, b⟩ := shown_at d 0 h
    rw [b]
    exact first_digit d h1 a
  · obtain ⟨a, b⟩ := shown_at d _ h
    rw [b]
    obtain ⟨c, e⟩ := keptD_last (l := Lib.decDigits d) (Lib.nDigits d) ((shown d).length - 1) (by omega) (by omega)
    exact e
open Go Go.RowKit Go.Sort
set_option maxRecDepth 100000
theorem bitLen_of {u k : Nat} (h1 : 2 ^ k ≤ u) (h2 : u < 2 ^ (k + 1)) (h : u < 18446744073709551616) : Lib.bitLen u = k + 1 := by
  rw [Lib.bitLen_shift k u h1 h]
  have : u / 2 ^ k = 1 := by
    rw [Nat.div_eq_iff (Nat.two_pow_pos k)]
    rw [Nat.pow_succ] at h2
    omega
  rw [this]
  rfl
structure NumTabs (B : Nat) (w : World) (H L : Nat → Nat) : Prop where
  pow : PowTab w H L
  ten : Lib.TabBelow Tryz.prog B w "internal/strconv.uint64pow10" .u64 Lib.pow10Tab
  lt : 10 < B
theorem NumTabs.powAt {B : Nat} {w w' : World} {H L : Nat → Nat} (h : NumTabs B w H L) (hb : Below B w w') : PowTab w' H L :=
  ⟨fun i hi => by rw [hb.cell (show 10 < B from h.lt)]; exact h.pow.hi i hi, fun i hi => by rw [hb.cell (show 10 < B from h.lt)]; exact h.pow.lo i hi⟩
abbrev zeros32 : Array Value := #[.int .u8 0, .int .u8 0, .int .u8 0, .int .u8 0, .int .u8 0, .int .u8 0, .int .u8 0, .int .u8 0, .int .u8 0, .int .u8 0, .int .u8 0, .int .u8 0, .int .u8 0, .int .u8 0, .int .u8 0, .int .u8 0, .int .u8 0, .int .u8 0, .int .u8 0, .int .u8 0, .int .u8 0, .int .u8 0, .int .u8 0, .int .u8 0, .int .u8 0, .int .u8 0, .int .u8 0, .int .u8 0, .int .u8 0, .int .u8 0, .int .u8 0, .int .u8 0]
theorem zeros32_at (j : Nat) (hj : j < 32) : zeros32[j]? = some (.int .u8 0) := by
  rw [show zeros32 = Array.replicate 32 (.int .u8 0) from rfl, Array.getElem?_replicate, if_pos hj]
structure Fresh (B : Nat) (sv : Value) (w W : World) : Prop where
  own : W.ownsRow B 5 1 sv 0 []
  below : Below B w W
  size : w.heap.size < W.heap.size
  cells : ∀ j, j < 32 → W.cell? ⟨w.heap.size, j, none⟩ = some (.int .u8 0) ∧ W.frozen? ⟨w.heap.size, j, none⟩ = false
  kind : ∃ arr fz, W.heap[w.heap.size]? = some (.cells arr 259 fz)
theorem fresh_of {B : Nat} {sv : Value} {w : World} (hB : B ≤ w.heap.size) (hown : w.ownsRow B 5 1 sv 0 []) : Fresh B sv w (w.alloc (.cells zeros32 259)).drew where
  own := hown.alloc _
  below := ((Below.refl B w).alloc hB _).drew
  size := by simp
  cells j hj := ⟨by
    show (w.alloc (.cells zeros32 259)).cell? _ = _
    rw [World.cell?_alloc_new]
    exact zeros32_at j hj, by
    show (w.alloc (.cells zeros32 259)).frozen? _ = _
    exact World.frozen?_alloc_new _ _ _ _⟩
  kind := ⟨_, _, heap_alloc_new w _⟩
theorem owns_below {B C : Nat} {sv : Value} {n : Nat} {xs : List Value} {w w' : World} (h : w.ownsRow B 5 1 sv n xs) (hb : Below C w w') (hc : ∀ k, sv.ownBlock = some k → k < C) : w'.ownsRow B 5 1 sv n xs := by
  refine ⟨h.1, ?_⟩
  rcases h.2 with h0 | ⟨g, cap, cur, h1, h2, h3, h4⟩
  · exact .inl h0
  · exact .inr ⟨g, cap, cur, h1, h2, by rw [hb.block g (hc g (by rw [h1]; rfl))]; exact h3, h4⟩
theorem Fresh.step {B : Nat} {sv : Value} {w W W' : World} (h : Fresh B sv w W) (hB : B ≤ w.heap.size) (hb : Below W.heap.size W W') : Fresh B sv w W' where
  own := owns_below h.own hb fun k hk => (h.own.lt k hk).2
  below := h.below.trans (hb.mono (Nat.le_trans hB (Nat.le_of_lt h.size)))
  size := Nat.lt_of_lt_of_le h.size hb.size
  cells j hj := ⟨by rw [hb.cell (show w.heap.size < _ from h.size)]; exact (h.cells j hj).1, by rw [hb.frozen (show w.heap.size < _ from h.size)]; exact (h.cells j hj).2⟩
  kind := by
    obtain ⟨arr, fz, hk⟩ := h.kind
    exact ⟨arr, fz, by rw [hb.block _ h.size]; exact hk⟩
theorem and2047 : ∀ n : Fin 2048, bits BinOp.and IntKind.i64 (n.val : Int) 2047 = (n.val : Int) := by decide +kernel
theorem run_bits (b : Nat) (w : World) : (callFunc 218 #[.float .f64 b]).run Tryz.prog w = .ok (.value (.int .u64 b)) w := by kernel_rfl
theorem ftoa_norm (H L : Nat → Nat) (hH0 : ∀ i, i < 696 → 9223372036854775808 ≤ H i) (hH : ∀ i, i < 696 → H i < 18446744073709551616) (hL : ∀ i, i < 696 → L i < 18446744073709551616)
    (b X M : Nat) (hX : X = b / 4503599627370496) (hM : M = b % 4503599627370496 + 4503599627370496) (h1 : 1 ≤ X) (h2 : X ≤ 2046) :
    ∃ (l : List UInt8) (E : Int), Dig l ∧ -450 ≤ E ∧ E ≤ 450 ∧ ∀ (B : Nat) (sv : Value) (w : World), B ≤ w.heap.size → w.ownsRow B 5 1 sv 0 [] → NumTabs B w H L →
      Calls Tryz.prog 203 #[sv, .float .f64 b, .int .u8 101, .int .i64 (-1)] w fun e w' => ∃ v' n, e = .returned v' ∧ w'.ownsRow B 5 1 v' n (Lib.byteCells (eText l E)) ∧ Below B w w' := by
  have hb : b < 9218868437227405312 := by omega
  have hMr : 4503599627370496 ≤ M ∧ M < 9007199254740992 := by omega
  obtain ⟨d, p, hd1, hd2, hp1, hp2, hcall⟩ := short_call H L hH0 hH hL (M * 2048) ((X : Int) + -1023 - 11 - 52) (by omega) (by omega) (by omega) (by intro _; omega) (by intro Z h; omega)
  obtain ⟨nd, hnd⟩ : ∃ nd, Lib.nDigits d = nd := ⟨_, rfl⟩
  have hnd20 : nd ≤ 20 := by have := Lib.nDigits_le20 d hd2; omega
  have hdg := shown_dig d hd1 hd2
  obtain ⟨l, hl⟩ : ∃ l, shown d = l := ⟨_, rfl⟩
  have hll := shown_length d
  have hat := shown_at d
  rw [hl] at hdg hll hat
  rw [hnd] at hll
  refine ⟨l, (nd : Int) + p - 1, hdg, by omega, by omega, fun B sv w hB hown hT => ?_⟩
  have hmax : max ((l.length : Int) - 1) 0 = (l.length : Int) - 1 := by have := hdg.pos; omega
  have hlp := hdg.pos
  have hlf := hdg.few
  have Hnd := Lib.hid hnd
  have Hll := Lib.hid hll
  have Hat := Lib.hid hat
  clear hnd hll hat hl
  have hcall2 : ∀ w : World, PowTab w H L → Calls Tryz.prog 228 #[.int .u64 ((M : Int) * 2048), .int .i64 ((X : Int) + -1023 - 11 - 52)] w fun en w' => en = .returned (.tuple #[.int .u64 d, .int .i64 p]) ∧ Below w.heap.size w w' := fun w hw => by
    have h := hcall w hw
    rw [Int.natCast_mul] at h
    exact h
  clear hcall
  have h63 : (b : Int) / 9223372036854775808 = 0 := by omega
  have hx : bits BinOp.and IntKind.i64 ((b : Int) / 4503599627370496) 2047 = (X : Int) := by
    rw [show (b : Int) / 4503599627370496 = ((X : Nat) : Int) by omega]
    exact and2047 ⟨X, by omega⟩
  have hm : bits BinOp.and IntKind.u64 (b : Int) 4503599627370495 = ((b % 4503599627370496 : Nat) : Int) := by
    have h := bits_and_u64_nat b 4503599627370495 (by omega) (by omega)
    have e : b &&& 4503599627370495 = b % 4503599627370496 := Nat.and_two_pow_sub_one_eq_mod b 52
    rw [e] at h
    exact h
  have ho : bits BinOp.or IntKind.u64 ((b : Int) % 4503599627370496) 4503599627370496 = (M : Int) := by
    rw [show (b : Int) % 4503599627370496 = ((b % 4503599627370496 : Nat) : Int) by omega]
    have h := bits_or_u64_nat (b % 4503599627370496) 4503599627370496 (by omega) (by omega)
    have e : (b % 4503599627370496) ||| 4503599627370496 = M := by
      rw [Nat.or_comm]
      have := Nat.two_pow_add_eq_or_of_lt (i := 52) (b := b % 4503599627370496) (by omega) 1
      rw [hM]
      simp only [Nat.mul_one] at this
      rw [show (4503599627370496 : Nat) = 2 ^ 52 from rfl, ← this, Nat.add_comm]
    rw [e] at h
    exact h
  have hbits := fun w => run_bits b w
  have hlen : Lib.bitLen M = 53 := bitLen_of (k := 52) (by omega) (by omega) (by omega)
  clear hX hM
  go_enter Tryz.func203, Tryz.ntmps203
  go_wp2_with fail
  go_region
  go_wp2_with fail
  generalize hW0 : (w.alloc (.cells zeros32 259)).drew = W0
  have F : Fresh B sv w W0 := by rw [← hW0]; exact fresh_of hB hown
  clear hW0
  refine (Tryz.bits_Len64 _ _ (by omega) (by omega)).mono ?_
  rintro e w' ⟨rfl, rfl⟩
  go_wp2_with fail
  refine (hcall2 _ (hT.powAt F.below)).mono ?_
  rintro e W1 ⟨rfl, hb1⟩
  have F1 := F.step hB hb1
  clear F hb1
  go_wp2_with fail
  go_region_with (first
    | (go_at_call 173; refine (Tryz.internal_strconv_numDigits d hd1 hd2 _ ?_).mono ?_; exact hT.ten _ F1.below.drew; rintro e w' ⟨rfl, rfl⟩; rw [Hnd.out])
    | (go_at_call 223; refine (setDigits_call _ d nd p _ Hnd.out.symm hd2 (by omega) (by omega) ?_).mono ?_; exact F1.cells; rintro e w' ⟨rfl, hcs, hkk, hss, hbs⟩; rw [← Hll.out]))
  go_wp2_with fail
  refine (fmtE_call B w.heap.size l ((nd : Int) + p) hlp hlf (by omega) (by omega) sv _ ?_ ?_ ?_ ?_).mono ?_
  · rw [hss]; exact Nat.le_trans hB (Nat.le_of_lt F1.size)
  · exact owns_below (w := W1.drew) F1.own hbs fun k hk => (hown.lt k hk).2
  · exact hkk 259 F1.kind
  · intro j hj
    obtain ⟨h2, h3⟩ := Hat.out j hj
    rw [h3]
    exact hcs j h2
  · rintro e W2 ⟨v', n, rfl, ho2, hb2⟩
    go_wp2_with fail
    go_ret
    exact ⟨v', n, rfl, ho2, (F1.below.drew.trans (hbs.mono hB)).trans hb2⟩
open Go Go.RowKit Go.Sort
set_option maxRecDepth 100000
theorem ftoa_den (H L : Nat → Nat) (hH0 : ∀ i, i < 696 → 9223372036854775808 ≤ H i) (hH : ∀ i, i < 696 → H i < 18446744073709551616) (hL : ∀ i, i < 696 → L i < 18446744073709551616)
    (b : Nat) (h1 : 1 ≤ b) (h2 : b < 4503599627370496) :
    ∃ (l : List UInt8) (E : Int), Dig l ∧ -450 ≤ E ∧ E ≤ 450 ∧ ∀ (B : Nat) (sv : Value) (w : World), B ≤ w.heap.size → w.ownsRow B 5 1 sv 0 [] → NumTabs B w H L →
      Calls Tryz.prog 203 #[sv, .float .f64 b, .int .u8 101, .int .i64 (-1)] w fun e w' => ∃ v' n, e = .returned v' ∧ w'.ownsRow B 5 1 v' n (Lib.byteCells (eText l E)) ∧ Below B w w' := by
  have hk1 := Nat.log2_self_le (n := b) (by omega)
  have hk2 := Nat.lt_log2_self (n := b)
  obtain ⟨k, hk⟩ : ∃ k, b.log2 = k := ⟨_, rfl⟩
  rw [hk] at hk1 hk2
  have hk51 : k ≤ 51 := by
    rcases Nat.lt_or_ge k 52 with h | h
    · omega
    · have := Nat.pow_le_pow_right (n := 2) (by decide) h
      omega
  have hlen : Lib.bitLen b = k + 1 := bitLen_of hk1 hk2 (by omega)
  obtain ⟨S, hS⟩ : ∃ S : Nat, S = 63 - k := ⟨_, rfl⟩
  have hS1 : 12 ≤ S := by omega
  have hS2 : S ≤ 63 := by omega
  obtain ⟨m, hm0⟩ : ∃ m, m = b * 2 ^ S := ⟨_, rfl⟩
  have hmlo : 9223372036854775808 ≤ m := by
    have h := Nat.mul_le_mul_right (2 ^ S) hk1
    rw [← Nat.pow_add, show k + S = 63 by omega] at h
    omega
  have hmhi : m + 2 ^ S ≤ 18446744073709551616 := by
    have h := Nat.mul_le_mul_right (2 ^ S) (Nat.succ_le_of_lt hk2)
    rw [← Nat.pow_add, show k + 1 + S = 64 by omega, Nat.succ_mul] at h
    omega
  have hS12 : 2 ^ 12 ≤ 2 ^ S := Nat.pow_le_pow_right (by decide) hS1
  obtain ⟨d, p, hd1, hd2, hp1, hp2, hcall⟩ := short_call H L hH0 hH hL m (-1022 - (S : Int) - 52) (by omega) (by omega) (by omega) (by intro _; omega) (by
    intro Z h1 h2
    have hZ : S = Z + 1 := by omega
    have hp : 2 ^ S = 2 ^ Z * 2 := by rw [hZ, Nat.pow_succ]
    have := Nat.two_pow_pos Z
    omega)
  obtain ⟨nd, hnd⟩ : ∃ nd, Lib.nDigits d = nd := ⟨_, rfl⟩
  have hnd20 : nd ≤ 20 := by have := Lib.nDigits_le20 d hd2; omega
  have hdg := shown_dig d hd1 hd2
  obtain ⟨l, hl⟩ : ∃ l, shown d = l := ⟨_, rfl⟩
  have hll := shown_length d
  have hat := shown_at d
  rw [hl] at hdg hll hat
  rw [hnd] at hll
  refine ⟨l, (nd : Int) + p - 1, hdg, by omega, by omega, fun B sv w hB hown hT => ?_⟩
  have hmax : max ((l.length : Int) - 1) 0 = (l.length : Int) - 1 := by have := hdg.pos; omega
  have hlp := hdg.pos
  have hlf := hdg.few
  have Hnd := Lib.hid hnd
  have Hll := Lib.hid hll
  have Hat := Lib.hid hat
  clear hnd hll hat hl
  have hcall2 : ∀ w : World, PowTab w H L → Calls Tryz.prog 228 #[.int .u64 (m : Int), .int .i64 (-1022 - (S : Int) - 52)] w fun en w' => en = .returned (.tuple #[.int .u64 d, .int .i64 p]) ∧ Below w.heap.size w w' := hcall
  clear hcall
  have h63 : (b : Int) / 9223372036854775808 = 0 := by omega
  have h52 : (b : Int) / 4503599627370496 = 0 := by omega
  have hx : bits BinOp.and IntKind.i64 0 2047 = 0 := and2047 ⟨0, by decide⟩
  have hm : bits BinOp.and IntKind.u64 (b : Int) 4503599627370495 = (b : Int) := by
    have h := bits_and_u64_nat b 4503599627370495 (by omega) (by omega)
    have e : b &&& 4503599627370495 = b % 4503599627370496 := Nat.and_two_pow_sub_one_eq_mod b 52
    rw [e, Nat.mod_eq_of_lt h2] at h
    exact h
  have hsh : 64 - ((k : Int) + 1) = (S : Int) := by omega
  have hwr : IntKind.u64.wrap ((b : Int) * 2 ^ S) = (m : Int) := by
    rw [show (b : Int) * 2 ^ S = (m : Int) by rw [hm0, Int.natCast_mul, Int.natCast_pow]; rfl, IntKind.wrap_u64]
    omega
  have hbits := fun w => run_bits b w
  clear hm0 hmhi hmlo hk1 hk2 hS12 hk hS
  go_enter Tryz.func203, Tryz.ntmps203
  go_wp2_with fail
  go_region
  go_wp2_with fail
  generalize hW0 : (w.alloc (.cells zeros32 259)).drew = W0
  have F : Fresh B sv w W0 := by rw [← hW0]; exact fresh_of hB hown
  clear hW0
  refine (Tryz.bits_Len64 _ _ (by omega) (by omega)).mono ?_
  rintro e w' ⟨rfl, rfl⟩
  go_wp2_with fail
  refine (hcall2 _ (hT.powAt F.below)).mono ?_
  rintro e W1 ⟨rfl, hb1⟩
  have F1 := F.step hB hb1
  clear F hb1
  go_wp2_with fail
  go_region_with (first
    | (go_at_call 173; refine (Tryz.internal_strconv_numDigits d hd1 hd2 _ ?_).mono ?_; exact hT.ten _ F1.below.drew; rintro e w' ⟨rfl, rfl⟩; rw [Hnd.out])
    | (go_at_call 223; refine (setDigits_call _ d nd p _ Hnd.out.symm hd2 (by omega) (by omega) ?_).mono ?_; exact F1.cells; rintro e w' ⟨rfl, hcs, hkk, hss, hbs⟩; rw [← Hll.out]))
  go_wp2_with fail
  refine (fmtE_call B w.heap.size l ((nd : Int) + p) hlp hlf (by omega) (by omega) sv _ ?_ ?_ ?_ ?_).mono ?_
  · rw [hss]; exact Nat.le_trans hB (Nat.le_of_lt F1.size)
  · exact owns_below (w := W1.drew) F1.own hbs fun k hk => (hown.lt k hk).2
  · exact hkk 259 F1.kind
  · intro j hj
    obtain ⟨h2, h3⟩ := Hat.out j hj
    rw [h3]
    exact hcs j h2
  · rintro e W2 ⟨v', n, rfl, ho2, hb2⟩
    go_wp2_with fail
    go_ret
    exact ⟨v', n, rfl, ho2, (F1.below.drew.trans (hbs.mono hB)).trans hb2⟩
open Go Go.RowKit Go.Sort
set_option maxRecDepth 100000
theorem owned_cells {w : World} {B n : Nat} {v : Value} {l : List UInt8} (h : w.ownsRow B 5 1 v n (Lib.byteCells l)) (hl : 1 ≤ l.length) :
    ∃ g cap, v = .slice (some ⟨g, 0, none⟩) l.length cap ∧ ∀ j (hj : j < l.length), w.cell? ⟨g, 0 + j, none⟩ = some (.int .u8 (l[j].toNat : Int)) := by
  have hn : n = l.length := by have := h.1; rw [Lib.byteCells_length] at this; omega
  rcases h.2 with ⟨_, h0⟩ | ⟨g, cap, cur, h1, h2, h3, h4, h5, h6, h7⟩
  · omega
  · refine ⟨g, cap, by rw [h1, hn], fun j hj => ?_⟩
    have e5 : (Lib.byteCells l)[j]? = some (Value.int .u8 (l[j].toNat : Int)) := by simp [Lib.byteCells, hj]
    rw [← h7, Nat.mul_one, List.getElem?_take, if_pos (by omega)] at e5
    simp only [World.cell?, h3, Nat.zero_add]
    simpa using e5
def Plain (b : Nat) : Prop := 1 ≤ b ∧ b < 9218868437227405312
theorem ftoa_call (H L : Nat → Nat) (hH0 : ∀ i, i < 696 → 9223372036854775808 ≤ H i) (hH : ∀ i, i < 696 → H i < 18446744073709551616) (hL : ∀ i, i < 696 → L i < 18446744073709551616) (b : Nat) (hb : Plain b) :
    ∃ (l : List UInt8) (E : Int), Dig l ∧ -450 ≤ E ∧ E ≤ 450 ∧ ∀ (B : Nat) (sv : Value) (w : World), B ≤ w.heap.size → w.ownsRow B 5 1 sv 0 [] → NumTabs B w H L →
      Calls Tryz.prog 203 #[sv, .float .f64 b, .int .u8 101, .int .i64 (-1)] w fun e w' => ∃ v' n, e = .returned v' ∧ w'.ownsRow B 5 1 v' n (Lib.byteCells (eText l E)) ∧ Below B w w' := by
  obtain ⟨h1, h2⟩ := hb
  by_cases h : b < 4503599627370496
  · exact ftoa_den H L hH0 hH hL b h1 h
  · exact ftoa_norm H L hH0 hH hL b _ _ rfl rfl (by omega) (by omega)
theorem eText_pos {l : List UInt8} {E : Int} : 1 ≤ (eText l E).length := by
  unfold eText
  rw [List.length_append, List.length_cons]
  omega
theorem formatIn_call (H L : Nat → Nat) (hH0 : ∀ i, i < 696 → 9223372036854775808 ≤ H i) (hH : ∀ i, i < 696 → H i < 18446744073709551616) (hL : ∀ i, i < 696 → L i < 18446744073709551616) (b : Nat) (hb : Plain b) :
    ∃ (l : List UInt8) (E : Int), Dig l ∧ -450 ≤ E ∧ E ≤ 450 ∧ ∀ (w : World), NumTabs w.heap.size w H L →
      Calls Tryz.prog 177 #[.float .f64 b, .int .u8 101, .int .i64 (-1), .int .i64 64] w fun e w' => e = .returned (.string ⟨(eText l E).toArray⟩) ∧ Below w.heap.size w w' := by
  obtain ⟨l, E, hd, hE0, hE1, hcall⟩ := ftoa_call H L hH0 hH hL b hb
  refine ⟨l, E, hd, hE0, hE1, fun w hT => ?_⟩
  obtain ⟨i0, hi, hz0, hz1, hz2⟩ := info_parts info5
  obtain ⟨w0, hr, hown, hg⟩ := run_make_own (P := Tryz.prog) w w.heap.size 98 5 i0 (.int .u8 0) 1 Tryz.underlying98 hi hz0 hz1 .i64 .i64 24 (by omega) (by unfold maxLen; omega) (Nat.le_refl _)
  have hr2 : (Instr.makeSlice 98 (.int .i64 0) (.int .i64 24)).run Tryz.prog w = .ok (.slice (some ⟨w.heap.size, 0, none⟩) 0 24) w0 := hr
  have hb0 : Below w.heap.size w w0 := (Below.refl _ w).grown hg (Nat.le_refl _) (fun k hk => by cases hk)
  have hT0 : NumTabs w.heap.size w0 H L := ⟨hT.powAt hb0, hT.ten.on hb0, hT.lt⟩
  clear hr
  have hmx : max (3 : Int) 24 = 24 := by decide
  go_enter Tryz.func177, Tryz.ntmps177
  go_wp2_with fail
  refine (hcall w.heap.size _ w0 hb0.size hown hT0).mono ?_
  rintro e w1 ⟨v', n, rfl, ho1, hb1⟩
  obtain ⟨g, cap, rfl, hcs⟩ := owned_cells ho1 eText_pos
  have hcv := run_convert_bytes_back (P := Tryz.prog) w1 98 9 5 ⟨g, 0, none⟩ cap (eText l E) Tryz.underlying98 Tryz.underlying5 Tryz.underlying9 (fun j hj => by rw [Lib.add_plain]; exact hcs j hj)
  clear hcs
  go_wp2_with fail
  go_ret
  exact ⟨rfl, hb0.trans hb1⟩
theorem format_call (H L : Nat → Nat) (hH0 : ∀ i, i < 696 → 9223372036854775808 ≤ H i) (hH : ∀ i, i < 696 → H i < 18446744073709551616) (hL : ∀ i, i < 696 → L i < 18446744073709551616) (b : Nat) (hb : Plain b) :
    ∃ (l : List UInt8) (E : Int), Dig l ∧ -450 ≤ E ∧ E ≤ 450 ∧ ∀ (w : World), NumTabs w.heap.size w H L →
      Calls Tryz.prog 139 #[.float .f64 b, .int .u8 101, .int .i64 (-1), .int .i64 64] w fun e w' => e = .returned (.string ⟨(eText l E).toArray⟩) ∧ Below w.heap.size w w' := by
  obtain ⟨l, E, hd, hE0, hE1, hcall⟩ := formatIn_call H L hH0 hH hL b hb
  refine ⟨l, E, hd, hE0, hE1, fun w hT => ?_⟩
  go_enter Tryz.func139, Tryz.ntmps139
  go_wp2_with fail
  refine (hcall w hT).mono ?_
  rintro e w1 ⟨rfl, hb1⟩
  go_wp2_with fail
  go_ret
  exact ⟨rfl, hb1⟩
open Go Go.RowKit Go.Sort
set_option maxRecDepth 100000
theorem run_bits87 (b : Nat) (w : World) : (callFunc 87 #[.float .f64 b]).run Tryz.prog w = .ok (.value (.int .u64 b)) w := by kernel_rfl
theorem run_from (n : Int) (w : World) : (callFunc 135 #[.int .u64 n]).run Tryz.prog w = .ok (.value (.float .f64 n.toNat)) w := by kernel_rfl
def absB (v : Nat) : Nat := v % 9223372036854775808
theorem andNot_sign (v : Nat) : bits BinOp.andNot IntKind.u64 (v : Int) 9223372036854775808 = ((absB v : Nat) : Int) := by
  have h : some (Value.int .u64 (bits BinOp.andNot IntKind.u64 (v : Int) 9223372036854775808)) = some (Value.int .u64 ((absB v : Nat) : Int)) := Go.Proofs.YtkeibmkcgnppeaaGreatDoor.Rx.abs_bits v
  rw [Option.some.injEq, Value.int.injEq] at h
  exact h.2
theorem abs_call (v : Nat) (w : World) :
    Calls Tryz.prog 86 #[.float .f64 v] w fun e w' => e = .returned (.float .f64 (absB v)) ∧ w' = w := by
  have h1 := fun w => run_bits87 v w
  have h2 := fun n w => run_from n w
  have h3 := andNot_sign v
  go_enter Tryz.func86, Tryz.ntmps86
  go_wp2_with fail
  go_ret
  refine ⟨?_, rfl⟩
  show Ending.returned (Value.float .f64 (((absB v : Nat) : Int)).toNat) = _
  rw [Int.toNat_natCast]
structure Fin (v : Nat) : Prop where
  self : FloatKind.f64.format.order v v = some .eq
  nought : FloatKind.f64.format.order v 0 ≠ some .eq
  abs : FloatKind.f64.format.order (absB v) 9218868437227405311 ≠ some .gt
  sub : FloatKind.f64.format.sub v v = some 0
theorem fin_of {v : Nat} (h0 : 1 ≤ absB v) (h1 : absB v < 9218868437227405312) : Fin v := by
  have hmax : Ieee.double.read 9218868437227405311 = .number false 9007199254740991 971 := by rw [Go.Proofs.YtkeibmkcgnppeaaGreatDoor.Rx.read64]; rfl
  have hr := Go.Proofs.YtkeibmkcgnppeaaGreatDoor.Rx.read64 v
  have ha := Go.Proofs.YtkeibmkcgnppeaaGreatDoor.Rx.read64 (absB v)
  unfold absB at *
  rw [Nat.mod_mod] at ha
  have hz : v % 9223372036854775808 / 9223372036854775808 = 0 := Nat.div_eq_of_lt (Nat.mod_lt v (by decide))
  by_cases c1 : v % 9223372036854775808 < 4503599627370496
  · rw [if_pos c1] at hr ha
    refine ⟨Go.Proofs.YtkeibmkcgnppeaaGreatDoor.Rx.order_self hr, Go.Proofs.YtkeibmkcgnppeaaGreatDoor.Rx.order_nought hr (by omega), ?_, Go.Proofs.YtkeibmkcgnppeaaGreatDoor.Rx.sub_fin hr⟩
    refine Go.Proofs.YtkeibmkcgnppeaaGreatDoor.Rx.order_fin (m := v % 9223372036854775808) (n := 9007199254740991) (i := -1074) (j := 971) ?_ hmax (by omega) (by omega)
    show Ieee.double.read (v % 9223372036854775808) = _
    rw [ha]
    simp [hz]
  · rw [if_neg c1, if_pos h1] at hr ha
    refine ⟨Go.Proofs.YtkeibmkcgnppeaaGreatDoor.Rx.order_self hr, Go.Proofs.YtkeibmkcgnppeaaGreatDoor.Rx.order_nought hr (by omega), ?_, Go.Proofs.YtkeibmkcgnppeaaGreatDoor.Rx.sub_fin hr⟩
    refine Go.Proofs.YtkeibmkcgnppeaaGreatDoor.Rx.order_fin (n := 9007199254740991) (j := 971) (m := 4503599627370496 + v % 9223372036854775808 % 4503599627370496) (i := -1074 + ((v % 9223372036854775808 / 4503599627370496 - 1 : Nat) : Int)) ?_ hmax (by omega) (by omega)
    show Ieee.double.read (v % 9223372036854775808) = _
    rw [ha]
    simp [hz]
theorem run_fneq (a b : Nat) (w : World) : (binOp .neq 22 (.float .f64 a) (.float .f64 b)).run Tryz.prog w = .ok (.bool (FloatKind.f64.format.order a b != some .eq)) w := rfl
theorem run_feql (a b : Nat) (w : World) : (binOp .eql 22 (.float .f64 a) (.float .f64 b)).run Tryz.prog w = .ok (.bool (FloatKind.f64.format.order a b == some .eq)) w := rfl
theorem run_fgtr (a b : Nat) (w : World) : (binOp .gtr 22 (.float .f64 a) (.float .f64 b)).run Tryz.prog w = .ok (.bool (FloatKind.f64.format.order a b == some .gt)) w := rfl
theorem run_flss (a b : Nat) (w : World) : (binOp .lss 22 (.float .f64 a) (.float .f64 b)).run Tryz.prog w = .ok (.bool (FloatKind.f64.format.order a b == some .lt)) w := rfl
theorem run_fsub {a b c : Nat} (h : FloatKind.f64.format.sub a b = some c) (w : World) : (binOp .sub 22 (.float .f64 a) (.float .f64 b)).run Tryz.prog w = .ok (.float .f64 c) w := by
  simp [binOp, Op.floatCmp, Op.floatArith, h]
theorem nan_call {v : Nat} (h : FloatKind.f64.format.order v v = some .eq) (w : World) : Calls Tryz.prog 42 #[.float .f64 v] w fun e w' => e = .returned (.bool false) ∧ w' = w := by
  have hr : ∀ w, (binOp .neq 22 (.float .f64 v) (.float .f64 v)).run Tryz.prog w = .ok (.bool false) w := fun w => by
    rw [run_fneq, h]; rfl
  go_enter Tryz.func42, Tryz.ntmps42
  go_wp2_with fail
  go_ret
  exact ⟨rfl, rfl⟩
theorem inf_call {v : Nat} (h : FloatKind.f64.format.order (absB v) 9218868437227405311 ≠ some .gt) (w : World) : Calls Tryz.prog 43 #[.float .f64 v, .int .i64 0] w fun e w' => e = .returned (.bool false) ∧ w' = w := by
  have hr : ∀ w, (binOp .gtr 22 (.float .f64 (absB v)) (.float .f64 9218868437227405311)).run Tryz.prog w = .ok (.bool false) w := fun w => by
    rw [run_fgtr, show (FloatKind.f64.format.order (absB v) 9218868437227405311 == some .gt) = false by rw [beq_eq_false_iff_ne]; exact h]
  go_enter Tryz.func43, Tryz.ntmps43
  go_wp2_with fail
  refine (abs_call v _).mono ?_
  rintro e w' ⟨rfl, rfl⟩
  go_wp2_with fail
  go_ret
  exact ⟨rfl, rfl⟩
theorem finite_call {v : Nat} (h : FloatKind.f64.format.order v v = some .eq) (h2 : FloatKind.f64.format.order (absB v) 9218868437227405311 ≠ some .gt) (w : World) : Calls Tryz.prog 137 #[.float .f64 v] w fun e w' => e = .returned (.bool true) ∧ w' = w := by
  go_enter Tryz.func137, Tryz.ntmps137
  go_wp2_with fail
  refine (nan_call h _).mono ?_
  rintro e w' ⟨rfl, rfl⟩
  go_wp2_with fail
  refine (inf_call h2 _).mono ?_
  rintro e w' ⟨rfl, rfl⟩
  go_wp2_with fail
  go_ret
  exact ⟨rfl, rfl⟩
theorem refFinite_call {v : Nat} (h : FloatKind.f64.format.sub v v = some 0) (w : World) : Calls Tryz.prog 144 #[.float .f64 v] w fun e w' => e = .returned (.bool true) ∧ w' = w := by
  have h0 : FloatKind.f64.format.order 0 0 = some .eq := by decide +kernel
  have hr := fun w => run_fsub h w
  have hr2 : ∀ w, (binOp .eql 22 (.float .f64 0) (.float .f64 0)).run Tryz.prog w = .ok (.bool true) w := fun w => by
    rw [run_feql, h0]; rfl
  go_enter Tryz.func144, Tryz.ntmps144
  go_wp2_with fail
  go_ret
  exact ⟨rfl, rfl⟩
end Go.Proofs.YtkeibmkcgnppeaaGreatDoor

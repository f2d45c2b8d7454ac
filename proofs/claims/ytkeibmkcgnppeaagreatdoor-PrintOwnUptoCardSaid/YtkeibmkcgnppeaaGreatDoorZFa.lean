/- The shortest decimal of a float, first part. -/
import Derived.Test.YtkeibmkcgnppeaaGreatDoorChecked
import Derived.WalkKit
import Derived.IntWalk
import Derived.WalkSmall
import Derived.Test.YtkeibmkcgnppeaaGreatDoorZShelf
import Derived.Deep.RegionWith
import Derived.Laws.Bits64b
import Derived.Laws.ShiftsVar
import Derived.Lib.RabinKarpLaws
set_option maxHeartbeats 32000000
namespace Go.Proofs.YtkeibmkcgnppeaaGreatDoor
open Go Go.RowKit
set_option maxRecDepth 100000
theorem log10_call (x : Int) (h0 : -100000 ≤ x) (h1 : x ≤ 100000) (w : World) :
    Calls Tryz.prog 197 #[.int .i64 x] w fun e w' => e = .returned (.int .i64 (x * 78913 / 262144)) ∧ w' = w := by
  go_enter Tryz.func197, Tryz.ntmps197
  go_wp2
  go_ret
  exact ⟨rfl, rfl⟩
theorem log2_call (x : Int) (h0 : -100000 ≤ x) (h1 : x ≤ 100000) (w : World) :
    Calls Tryz.prog 238 #[.int .i64 x] w fun e w' => e = .returned (.int .i64 (x * 108853 / 32768)) ∧ w' = w := by
  go_enter Tryz.func238, Tryz.ntmps238
  go_wp2
  go_ret
  exact ⟨rfl, rfl⟩
theorem skewed_call (x : Int) (h0 : -100000 ≤ x) (h1 : x ≤ 100000) (w : World) :
    Calls Tryz.prog 236 #[.int .i64 x] w fun e w' => e = .returned (.int .i64 ((x * 631305 - 261663) / 2097152)) ∧ w' = w := by
  go_enter Tryz.func236, Tryz.ntmps236
  go_wp2
  go_ret
  exact ⟨rfl, rfl⟩
def b2n (b : Bool) : Int := cond b 1 0
theorem bool2_call (b : Bool) (w : World) :
    Calls Tryz.prog 253 #[.bool b] w fun e w' => e = .returned (.int .u64 (b2n b)) ∧ w' = w := by
  cases b <;> (
    go_enter Tryz.func253, Tryz.ntmps253
    go_wp2
    go_ret
    exact ⟨rfl, rfl⟩)
theorem nudge_call (U k : Int) (hU0 : 0 ≤ U) (hU : U < 9223372036854775808) (h0 : -1 ≤ k) (h1 : k ≤ 1) (h : 0 ≤ U + k) (w : World) :
    Calls Tryz.prog 240 #[.int .u64 U, .int .i64 k] w fun e w' => e = .returned (.int .u64 (U + k)) ∧ w' = w := by
  go_enter Tryz.func240, Tryz.ntmps240
  go_wp2
  go_ret
  refine ⟨?_, rfl⟩
  show Ending.returned (Value.int .u64 (IntKind.u64.wrap (U + IntKind.u64.wrap k))) = _
  rw [IntKind.wrap_u64, IntKind.wrap_u64]
  congr 2
  omega
theorem ceil_call (U : Int) (hU0 : 0 ≤ U) (hU : U < 9223372036854775808) (w : World) :
    Calls Tryz.prog 241 #[.int .u64 U] w fun e w' => e = .returned (.int .u64 ((U + 3) / 4)) ∧ w' = w := by
  go_enter Tryz.func241, Tryz.ntmps241
  go_wp2
  go_ret
  exact ⟨rfl, rfl⟩
theorem floor_call (U : Int) (hU0 : 0 ≤ U) (hU : U < 9223372036854775808) (w : World) :
    Calls Tryz.prog 242 #[.int .u64 U] w fun e w' => e = .returned (.int .u64 (U / 4)) ∧ w' = w := by
  go_enter Tryz.func242, Tryz.ntmps242
  go_wp2
  go_ret
  exact ⟨rfl, rfl⟩
theorem round_call (U : Int) (hU0 : 0 ≤ U) (hU : U < 9223372036854775808) (w : World) :
    Calls Tryz.prog 243 #[.int .u64 U] w fun e w' => e = .returned (.int .u64 ((U + 1 + U / 4 % 2) / 4)) ∧ w' = w := by
  go_enter Tryz.func243, Tryz.ntmps243
  go_wp2
  go_ret
  refine ⟨?_, rfl⟩
  show Ending.returned (Value.int .u64 (IntKind.u64.wrap (U + 1 + bits BinOp.and IntKind.u64 (U / 4) 1) / 4)) = _
  rw [and_one_u64 _ (by omega) (by omega), IntKind.wrap_u64]
  congr 2
  omega
open Go Go.RowKit
set_option maxRecDepth 100000
theorem and63 (s : Nat) (h : s < 64) : bits BinOp.and IntKind.i64 (s : Int) 63 = (s : Int) := by
  revert h
  revert s
  decide +kernel
def uscE (x hi lo s : Nat) : Int :=
  cond (IntKind.u64.wrap ((x : Int) * hi / 18446744073709551616 / 2 ^ s * 2 ^ s) != (x : Int) * hi / 18446744073709551616)
    (bits BinOp.or .u64 ((x : Int) * hi / 18446744073709551616 / 2 ^ s) 1)
    (bits BinOp.or .u64 (IntKind.u64.wrap ((x : Int) * hi / 18446744073709551616 - b2n (decide ((x : Int) * hi % 18446744073709551616 < (x : Int) * lo / 18446744073709551616))) / 2 ^ s)
      (b2n (decide (1 < IntKind.u64.wrap ((x : Int) * hi % 18446744073709551616 - (x : Int) * lo / 18446744073709551616)))))
theorem uscale_call (X : Int) (x hi lo s b off : Nat) (hX : X = x) (w : World) (hx : x < 18446744073709551616) (hh : hi < 18446744073709551616) (hl : lo < 18446744073709551616) (hs : s < 64)
    (c0 : w.cell? ⟨b, off, none⟩ = some (.int .u64 hi)) (c1 : w.cell? ⟨b, off + 1, none⟩ = some (.int .u64 lo)) (c2 : w.cell? ⟨b, off + 2, none⟩ = some (.int .i64 s)) :
    Calls Tryz.prog 239 #[.int .u64 X, .pointer (some ⟨b, off, none⟩)] w fun e w' => e = .returned (.int .u64 (uscE x hi lo s)) ∧ ∃ n, w' = w.drewN n := by
  subst hX
  have h63 := and63 s hs
  go_enter Tryz.func239, Tryz.ntmps239
  go_wp2_with fail
  refine (Tryz.bits_Mul64 x hi hx hh _).mono ?_
  rintro e w' ⟨rfl, rfl⟩
  go_wp2_with fail
  · rename_i hc
    go_ret
    refine ⟨?_, 0, (World.drewN_zero _).symm⟩
    unfold uscE
    rw [hc]
    rfl
  · rename_i hc
    refine (Tryz.bits_Mul64 x lo hx hl _).mono ?_
    rintro e w' ⟨rfl, rfl⟩
    go_wp2_with fail
    refine (bool2_call _ _).mono ?_
    rintro e w' ⟨rfl, rfl⟩
    go_wp2_with fail
    all_goals (
      go_region_with (go_at_call 253; refine (bool2_call _ _).mono ?_; rintro e w' ⟨rfl, rfl⟩)
      go_wp2_with fail
      go_ret
      refine ⟨?_, 1, rfl⟩
      unfold uscE
      rw [show (IntKind.u64.wrap ((x : Int) * hi / 18446744073709551616 / 2 ^ s * 2 ^ s) != (x : Int) * hi / 18446744073709551616) = false by assumption]
      rfl)
open Go Go.RowKit
set_option maxRecDepth 100000
theorem usc_bounds {x hi lo s : Nat} (hx0 : 4611686018427387904 ≤ x) (hx : x < 18446744073709551616) (hh0 : 9223372036854775808 ≤ hi) (hh : hi < 18446744073709551616) (hs0 : 5 ≤ s) (hs : s ≤ 58) :
    ∃ u : Nat, uscE x hi lo s = u ∧ 7 ≤ u ∧ u < 1152921504606846976 := by
  have hm1 : 42535295865117307932921825928971026432 ≤ x * hi := Nat.le_trans (by decide) (Nat.mul_le_mul hx0 hh0)
  have hm2 : x * hi < 340282366920938463463374607431768211456 := Nat.lt_of_lt_of_le (Nat.mul_lt_mul'' hx hh) (by decide)
  obtain ⟨h, hdef⟩ : ∃ h, h = x * hi / 18446744073709551616 := ⟨_, rfl⟩
  have hl : 2305843009213693952 ≤ h := by omega
  have hu : h < 18446744073709551616 := by omega
  have e1 : (x : Int) * hi / 18446744073709551616 = (h : Int) := by rw [hdef, Int.natCast_ediv, Int.natCast_mul]; rfl
  have hp1 : 2 ^ 5 ≤ 2 ^ s := Nat.pow_le_pow_right (by decide) hs0
  have hp2 : 2 ^ s ≤ 2 ^ 58 := Nat.pow_le_pow_right (by decide) hs
  have key : ∀ a b : Nat, 2305843009213693951 ≤ a → a < 18446744073709551616 → b ≤ 1 → ∃ u : Nat, bits BinOp.or .u64 ((a : Int) / 2 ^ s) (b : Int) = u ∧ 7 ≤ u ∧ u < 1152921504606846976 := by
    intro a b ha ha2 hb
    have h1 : a / 2 ^ 58 ≤ a / 2 ^ s := Nat.div_le_div_left hp2 (Nat.lt_of_lt_of_le (by decide) hp1)
    have h2 : a / 2 ^ s ≤ a / 2 ^ 5 := Nat.div_le_div_left hp1 (by decide)
    have h3 : 7 ≤ a / 2 ^ s := Nat.le_trans (by omega) h1
    have h4 : a / 2 ^ s < 576460752303423488 := Nat.lt_of_le_of_lt h2 (by omega)
    refine ⟨a / 2 ^ s ||| b, ?_, Nat.le_trans h3 Nat.left_le_or, ?_⟩
    · rw [← bits_or_u64_nat (a / 2 ^ s) b (by omega) (by omega), Int.natCast_ediv, Int.natCast_pow]
      rfl
    · exact Nat.or_lt_two_pow (n := 60) (Nat.lt_trans h4 (by decide)) (by omega)
  unfold uscE
  rw [e1]
  cases IntKind.u64.wrap ((h : Int) / 2 ^ s * 2 ^ s) != (h : Int) with
  | true => exact key h 1 (by omega) hu (by omega)
  | false =>
    simp only [cond_false]
    have b1 : ∀ c : Bool, ∃ k : Nat, b2n c = k ∧ k ≤ 1 := fun c => by cases c <;> exact ⟨_, rfl, by decide⟩
    obtain ⟨k1, hk1, hk1'⟩ := b1 (decide ((x : Int) * hi % 18446744073709551616 < (x : Int) * lo / 18446744073709551616))
    obtain ⟨k2, hk2, hk2'⟩ := b1 (decide (1 < IntKind.u64.wrap ((x : Int) * hi % 18446744073709551616 - (x : Int) * lo / 18446744073709551616)))
    rw [hk1, hk2]
    have e2 : IntKind.u64.wrap ((h : Int) - k1) = ((h - k1 : Nat) : Int) := by rw [IntKind.wrap_u64]; omega
    rw [e2]
    exact key (h - k1) k2 (by omega) (by omega) hk2'
structure PowTab (w : World) (H L : Nat → Nat) : Prop where
  hi : ∀ i, i < 696 → w.cell? ⟨10, i * 2, none⟩ = some (.int .u64 (H i))
  lo : ∀ i, i < 696 → w.cell? ⟨10, i * 2 + 1, none⟩ = some (.int .u64 (L i))
theorem prescale_call (b : Nat) (w : World) (H L : Nat → Nat) (hT : PowTab w H L) (i : Nat) (hi : i < 696) (p : Int) (hp : p = (i : Int) - 348) (e lp : Int) (he0 : -100000 ≤ e) (he1 : e ≤ 100000) (hl0 : -100000 ≤ lp) (hl1 : lp ≤ 100000)
    (v0 v1 v2 : Value) (c0 : w.cell? ⟨b, 0, none⟩ = some v0) (c1 : w.cell? ⟨b, 1, none⟩ = some v1) (c2 : w.cell? ⟨b, 2, none⟩ = some v2)
    (f0 : w.frozen? ⟨b, 0, none⟩ = false) (f1 : w.frozen? ⟨b, 1, none⟩ = false) (f2 : w.frozen? ⟨b, 2, none⟩ = false) :
    Calls Tryz.prog 237 #[.pointer (some ⟨b, 0, none⟩), .int .i64 e, .int .i64 p, .int .i64 lp] w fun en w' => en = .returned (.tuple #[]) ∧ w'.cell? ⟨b, 0, none⟩ = some (.int .u64 (H i)) ∧ w'.cell? ⟨b, 1, none⟩ = some (.int .u64 (L i)) ∧
      w'.cell? ⟨b, 2, none⟩ = some (.int .i64 (-(e + lp + 3))) ∧ w'.heap.size = w.heap.size ∧ Below b w w' := by
  subst hp
  have h1 := hT.hi i hi
  have h2 := hT.lo i hi
  go_enter Tryz.func237, Tryz.ntmps237
  go_wp2_with fail
  refine bodyPost_end (results_none rfl _ _ _) rfl ?_
  obtain ⟨W1, hW1⟩ : ∃ W1, W1 = w.setCell ⟨b, 0, none⟩ (.int .u64 (H i)) := ⟨_, rfl⟩
  have d0 : W1.cell? ⟨b, 0, none⟩ = some (.int .u64 (H i)) := by rw [hW1]; exact World.cell?_setCell_same _ _ _ c0
  have d1 : W1.cell? ⟨b, 1, none⟩ = some v1 := by rw [hW1, World.cell?_setCell_other _ _ _ _ (by simp)]; exact c1
  have d2 : W1.cell? ⟨b, 2, none⟩ = some v2 := by rw [hW1, World.cell?_setCell_other _ _ _ _ (by simp)]; exact c2
  obtain ⟨W2, hW2⟩ : ∃ W2, W2 = W1.setCell ⟨b, 1, none⟩ (.int .u64 (L i)) := ⟨_, rfl⟩
  have e0 : W2.cell? ⟨b, 0, none⟩ = some (.int .u64 (H i)) := by rw [hW2, World.cell?_setCell_other _ _ _ _ (by simp)]; exact d0
  have e1 : W2.cell? ⟨b, 1, none⟩ = some (.int .u64 (L i)) := by rw [hW2]; exact World.cell?_setCell_same _ _ _ d1
  have e2 : W2.cell? ⟨b, 2, none⟩ = some v2 := by rw [hW2, World.cell?_setCell_other _ _ _ _ (by simp)]; exact d2
  have hB : Below b w (W2.setCell ⟨b, 2, none⟩ (.int .i64 (-(e + lp + 3)))) := by
    rw [hW2, hW1]
    exact (((Below.refl b w).setCell (Nat.le_refl b) _).setCell (Nat.le_refl b) _).setCell (Nat.le_refl b) _
  have hS : (W2.setCell ⟨b, 2, none⟩ (.int .i64 (-(e + lp + 3)))).heap.size = w.heap.size := by
    rw [hW2, hW1, World.size_setCell, World.size_setCell, World.size_setCell]
  show Ending.returned (.tuple #[]) = Ending.returned (.tuple #[]) ∧ World.cell? (World.setCell (World.setCell (World.setCell w _ _) _ _) _ _) _ = _ ∧ World.cell? (World.setCell (World.setCell (World.setCell w _ _) _ _) _ _) _ = _ ∧ World.cell? (World.setCell (World.setCell (World.setCell w _ _) _ _) _ _) _ = _ ∧ _ ∧ _
  rw [← hW1, ← hW2]
  exact ⟨rfl, by rw [World.cell?_setCell_other _ _ _ _ (by simp)]; exact e0, by rw [World.cell?_setCell_other _ _ _ _ (by simp)]; exact e1, World.cell?_setCell_same _ _ _ e2, hS, hB⟩
open Go Go.RowKit
set_option maxRecDepth 100000
theorem PowTab.alloc {w : World} {H L : Nat → Nat} (h : PowTab w H L) (o : Obj) : PowTab (w.alloc o) H L := by
  have hlt : 10 < w.heap.size := by
    have := h.hi 0 (by decide)
    rcases Nat.lt_or_ge 10 w.heap.size with k | k
    · exact k
    · simp [World.cell?, Array.getElem?_eq_none k] at this
  exact ⟨fun i hi => by rw [World.cell?_alloc_old _ _ _ (by show 10 ≠ _; omega)]; exact h.hi i hi, fun i hi => by rw [World.cell?_alloc_old _ _ _ (by show 10 ≠ _; omega)]; exact h.lo i hi⟩
theorem below_drewN {B : Nat} {a w : World} (h : Below B a w) (n : Nat) : Below B a (w.drewN n) := ⟨h.os, h.tape, h.output, h.size, h.block⟩
def pickD (dmin dmax r : Int) : Int := if dmin ≤ dmax / 10 * 10 then dmax / 10 else if dmin < dmax then r else dmin
def pickP (dmin dmax p : Int) : Int := if dmin ≤ dmax / 10 * 10 then -(p - 1) else -p
theorem shortB (H L : Nat → Nat) (hH0 : ∀ i, i < 696 → 9223372036854775808 ≤ H i) (hH : ∀ i, i < 696 → H i < 18446744073709551616) (hL : ∀ i, i < 696 → L i < 18446744073709551616)
    (m : Nat) (e : Int) (hm0 : 9223372036854775808 ≤ m) (hm : m + 1024 < 18446744073709551616) (hm1 : m ≠ 9223372036854775808) (he0 : -1085 ≤ e) (he1 : e ≤ 971) :
    ∃ (d : Nat) (p : Int), 1 ≤ d ∧ d < 18446744073709551616 ∧ -400 ≤ p ∧ p ≤ 400 ∧ ∀ w : World, PowTab w H L →
      Calls Tryz.prog 228 #[.int .u64 m, .int .i64 e] w fun en w' => en = .returned (.tuple #[.int .u64 d, .int .i64 p]) ∧ Below w.heap.size w w' := by
  obtain ⟨p, hp⟩ : ∃ p : Int, -((e + 11) * 78913 / 262144) = p := ⟨_, rfl⟩
  obtain ⟨i, hi⟩ : ∃ i : Nat, p = (i : Int) - 348 := ⟨(p + 348).toNat, by omega⟩
  have hi6 : i < 696 := by omega
  obtain ⟨s, hs⟩ : ∃ s : Nat, -(e + p * 108853 / 32768 + 3) = (s : Int) := ⟨(-(e + p * 108853 / 32768 + 3)).toNat, by omega⟩
  have hs5 : 5 ≤ s := by omega
  have hs58 : s ≤ 58 := by omega
  obtain ⟨u1, hu1, lo1, up1⟩ := usc_bounds (x := m - 1024) (lo := L i) (by omega) (by omega) (hH0 i hi6) (hH i hi6) hs5 hs58
  obtain ⟨u2, hu2, lo2, up2⟩ := usc_bounds (x := m + 1024) (lo := L i) (by omega) (by omega) (hH0 i hi6) (hH i hi6) hs5 hs58
  obtain ⟨u3, hu3, lo3, up3⟩ := usc_bounds (x := m) (lo := L i) (by omega) (by omega) (hH0 i hi6) (hH i hi6) hs5 hs58
  obtain ⟨k, hk, hk0, hk1⟩ : ∃ k : Int, bits BinOp.and IntKind.i64 ((m : Int) / 2048) 1 = k ∧ 0 ≤ k ∧ k ≤ 1 := by
    refine ⟨_, rfl, ?_⟩
    have := Go.Proofs.and_one (m / 2048) (by omega)
    rw [show ((m : Int) / 2048) = ((m / 2048 : Nat) : Int) by omega, this]
    omega
  obtain ⟨dmin, hmin⟩ : ∃ d : Int, d = ((u1 : Int) + k + 3) / 4 := ⟨_, rfl⟩
  obtain ⟨dmax, hmax⟩ : ∃ d : Int, d = ((u2 : Int) + -k) / 4 := ⟨_, rfl⟩
  obtain ⟨r, hr⟩ : ∃ d : Int, d = ((u3 : Int) + 1 + (u3 : Int) / 4 % 2) / 4 := ⟨_, rfl⟩
  have hD : 1 ≤ pickD dmin dmax r ∧ pickD dmin dmax r < 18446744073709551616 := by
    unfold pickD
    split
    · omega
    · split <;> omega
  have hP : -400 ≤ pickP dmin dmax p ∧ pickP dmin dmax p ≤ 400 := by
    unfold pickP
    split <;> omega
  refine ⟨(pickD dmin dmax r).toNat, pickP dmin dmax p, by omega, by omega, hP.1, hP.2, fun w hT => ?_⟩
  rw [show (((pickD dmin dmax r).toNat : Nat) : Int) = pickD dmin dmax r by omega]
  have hmi : ((m : Int) == 9223372036854775808) = false := by simp; omega
  have hp' : -((e + 11) * 78913 / 262144) = p := hp
  go_enter Tryz.func228, Tryz.ntmps228
  go_wp2_with fail
  refine (log10_call (e + 11) (by omega) (by omega) _).mono ?_
  rintro en w' ⟨rfl, rfl⟩
  go_wp2_with fail
  refine (log2_call _ (by omega) (by omega) _).mono ?_
  rintro en w' ⟨rfl, rfl⟩
  go_wp2_with fail
  refine (prescale_call _ _ H L (hT.alloc _) i hi6 _ (by omega) e _ (by omega) (by omega) (by omega) (by omega) _ _ _ (by simp; rfl) (by simp; rfl) (by simp; rfl) (by simp) (by simp) (by simp)).mono ?_
  rintro en w1 ⟨rfl, d0, d1, d2, hsz, hB⟩
  rw [show -(e + ((i : Int) - 348) * 108853 / 32768 + 3) = (s : Int) by omega] at d2
  go_wp2_with fail
  refine (uscale_call _ (m - 1024) (H i) (L i) s _ _ (by omega) _ (by omega) (hH i hi6) (hL i hi6) (by omega) d0 d1 d2).mono ?_
  rintro en w2 ⟨rfl, n1, rfl⟩
  rw [hu1]
  go_wp2_with fail
  refine (nudge_call _ _ (by omega) (by omega) (by omega) (by omega) (by omega) _).mono ?_
  rintro en w3 ⟨rfl, rfl⟩
  go_wp2_with fail
  refine (ceil_call _ (by omega) (by omega) _).mono ?_
  rintro en w3 ⟨rfl, rfl⟩
  go_wp2_with fail
  refine (uscale_call _ (m + 1024) (H i) (L i) s _ _ (by omega) _ (by omega) (hH i hi6) (hL i hi6) (by omega) (by rw [World.cell?_drewN]; exact d0) (by rw [World.cell?_drewN]; exact d1) (by rw [World.cell?_drewN]; exact d2)).mono ?_
  rintro en w2 ⟨rfl, n2, rfl⟩
  rw [hu2]
  go_wp2_with fail
  refine (nudge_call _ _ (by omega) (by omega) (by omega) (by omega) (by omega) _).mono ?_
  rintro en w3 ⟨rfl, rfl⟩
  go_wp2_with fail
  refine (floor_call _ (by omega) (by omega) _).mono ?_
  rintro en w3 ⟨rfl, rfl⟩
  go_wp2_with fail
  · have hc : ((u1 : Int) + k + 3) / 4 ≤ ((u2 : Int) + -k) / 4 / 10 * 10 := by assumption
    go_ret2
    refine ⟨?_, below_drewN (((Below.refl _ w').alloc (Nat.le_refl _) _).trans hB) _⟩
    rw [hmin, hmax, hi]
    unfold pickD pickP
    rw [if_pos hc, if_pos hc]
    rfl
  · have hc : ¬ ((u1 : Int) + k + 3) / 4 ≤ ((u2 : Int) + -k) / 4 / 10 * 10 := by omega
    have hc2 : ((u1 : Int) + k + 3) / 4 < ((u2 : Int) + -k) / 4 := by assumption
    refine (uscale_call _ m (H i) (L i) s _ _ rfl _ (by omega) (hH i hi6) (hL i hi6) (by omega) (by rw [World.cell?_drewN]; exact d0) (by rw [World.cell?_drewN]; exact d1) (by rw [World.cell?_drewN]; exact d2)).mono ?_
    rintro en w2 ⟨rfl, n3, rfl⟩
    rw [hu3]
    go_wp2_with fail
    refine (round_call _ (by omega) (by omega) _).mono ?_
    rintro en w3 ⟨rfl, rfl⟩
    go_wp2_with fail
    go_ret2
    refine ⟨?_, below_drewN (((Below.refl _ w').alloc (Nat.le_refl _) _).trans hB) _⟩
    rw [hmin, hmax, hr, hi]
    unfold pickD pickP
    rw [if_neg (show ¬ ((u1 : Int) + k + 3) / 4 ≤ ((u2 : Int) + -k) / 4 / 10 * 10 by omega), if_neg (show ¬ ((u1 : Int) + k + 3) / 4 ≤ ((u2 : Int) + -k) / 4 / 10 * 10 by omega), if_pos hc2]
    rfl
  · have hc : ¬ ((u1 : Int) + k + 3) / 4 ≤ ((u2 : Int) + -k) / 4 / 10 * 10 := by omega
    have hc2 : ¬ ((u1 : Int) + k + 3) / 4 < ((u2 : Int) + -k) / 4 := by omega
    go_ret2
    refine ⟨?_, below_drewN (((Below.refl _ w').alloc (Nat.le_refl _) _).trans hB) _⟩
    rw [hmin, hmax, hi]
    unfold pickD pickP
    rw [if_neg hc, if_neg hc2, if_neg hc]
    rfl
open Go Go.RowKit
set_option maxRecDepth 100000
theorem shortA (H L : Nat → Nat) (hH0 : ∀ i, i < 696 → 9223372036854775808 ≤ H i) (hH : ∀ i, i < 696 → H i < 18446744073709551616) (hL : ∀ i, i < 696 → L i < 18446744073709551616)
    (e : Int) (he0 : -1085 < e) (he1 : e ≤ 971) :
    ∃ (d : Nat) (p : Int), 1 ≤ d ∧ d < 18446744073709551616 ∧ -400 ≤ p ∧ p ≤ 400 ∧ ∀ w : World, PowTab w H L →
      Calls Tryz.prog 228 #[.int .u64 9223372036854775808, .int .i64 e] w fun en w' => en = .returned (.tuple #[.int .u64 d, .int .i64 p]) ∧ Below w.heap.size w w' := by
  obtain ⟨p, hp⟩ : ∃ p : Int, -(((e + 11) * 631305 - 261663) / 2097152) = p := ⟨_, rfl⟩
  obtain ⟨i, hi⟩ : ∃ i : Nat, p = (i : Int) - 348 := ⟨(p + 348).toNat, by omega⟩
  have hi6 : i < 696 := by omega
  obtain ⟨s, hs⟩ : ∃ s : Nat, -(e + p * 108853 / 32768 + 3) = (s : Int) := ⟨(-(e + p * 108853 / 32768 + 3)).toNat, by omega⟩
  have hs5 : 5 ≤ s := by omega
  have hs58 : s ≤ 58 := by omega
  obtain ⟨u1, hu1, lo1, up1⟩ := usc_bounds (x := 9223372036854775296) (lo := L i) (by omega) (by omega) (hH0 i hi6) (hH i hi6) hs5 hs58
  obtain ⟨u2, hu2, lo2, up2⟩ := usc_bounds (x := 9223372036854776832) (lo := L i) (by omega) (by omega) (hH0 i hi6) (hH i hi6) hs5 hs58
  obtain ⟨u3, hu3, lo3, up3⟩ := usc_bounds (x := 9223372036854775808) (lo := L i) (by omega) (by omega) (hH0 i hi6) (hH i hi6) hs5 hs58
  have hk : bits BinOp.and IntKind.i64 4503599627370496 1 = 0 := by decide +kernel
  obtain ⟨dmin, hmin⟩ : ∃ d : Int, d = ((u1 : Int) + 3) / 4 := ⟨_, rfl⟩
  obtain ⟨dmax, hmax⟩ : ∃ d : Int, d = (u2 : Int) / 4 := ⟨_, rfl⟩
  obtain ⟨r, hr⟩ : ∃ d : Int, d = ((u3 : Int) + 1 + (u3 : Int) / 4 % 2) / 4 := ⟨_, rfl⟩
  have hD : 1 ≤ pickD dmin dmax r ∧ pickD dmin dmax r < 18446744073709551616 := by
    unfold pickD
    split
    · omega
    · split <;> omega
  have hP : -400 ≤ pickP dmin dmax p ∧ pickP dmin dmax p ≤ 400 := by
    unfold pickP
    split <;> omega
  refine ⟨(pickD dmin dmax r).toNat, pickP dmin dmax p, by omega, by omega, hP.1, hP.2, fun w hT => ?_⟩
  rw [show (((pickD dmin dmax r).toNat : Nat) : Int) = pickD dmin dmax r by omega]
  have hp' : -(((e + 11) * 631305 - 261663) / 2097152) = p := hp
  go_enter Tryz.func228, Tryz.ntmps228
  go_wp2_with fail
  refine (skewed_call (e + 11) (by omega) (by omega) _).mono ?_
  rintro en w' ⟨rfl, rfl⟩
  go_wp2_with fail
  refine (log2_call _ (by omega) (by omega) _).mono ?_
  rintro en w' ⟨rfl, rfl⟩
  go_wp2_with fail
  refine (prescale_call _ _ H L (hT.alloc _) i hi6 _ (by omega) e _ (by omega) (by omega) (by omega) (by omega) _ _ _ (by simp; rfl) (by simp; rfl) (by simp; rfl) (by simp) (by simp) (by simp)).mono ?_
  rintro en w1 ⟨rfl, d0, d1, d2, hsz, hB⟩
  rw [show -(e + ((i : Int) - 348) * 108853 / 32768 + 3) = (s : Int) by omega] at d2
  go_wp2_with fail
  refine (uscale_call _ 9223372036854775296 (H i) (L i) s _ _ (by omega) _ (by omega) (hH i hi6) (hL i hi6) (by omega) d0 d1 d2).mono ?_
  rintro en w2 ⟨rfl, n1, rfl⟩
  rw [hu1]
  go_wp2_with fail
  refine (nudge_call _ _ (by omega) (by omega) (by omega) (by omega) (by omega) _).mono ?_
  rintro en w3 ⟨rfl, rfl⟩
  go_wp2_with fail
  refine (ceil_call _ (by omega) (by omega) _).mono ?_
  rintro en w3 ⟨rfl, rfl⟩
  go_wp2_with fail
  refine (uscale_call _ 9223372036854776832 (H i) (L i) s _ _ (by omega) _ (by omega) (hH i hi6) (hL i hi6) (by omega) (by rw [World.cell?_drewN]; exact d0) (by rw [World.cell?_drewN]; exact d1) (by rw [World.cell?_drewN]; exact d2)).mono ?_
  rintro en w2 ⟨rfl, n2, rfl⟩
  rw [hu2]
  go_wp2_with fail
  refine (nudge_call _ _ (by omega) (by omega) (by omega) (by omega) (by omega) _).mono ?_
  rintro en w3 ⟨rfl, rfl⟩
  go_wp2_with fail
  refine (floor_call _ (by omega) (by omega) _).mono ?_
  rintro en w3 ⟨rfl, rfl⟩
  go_wp2_with fail
  · have hc : ((u1 : Int) + 3) / 4 ≤ (u2 : Int) / 4 / 10 * 10 := by assumption
    go_ret2
    refine ⟨?_, below_drewN (((Below.refl _ w').alloc (Nat.le_refl _) _).trans hB) _⟩
    rw [hmin, hmax, hi]
    unfold pickD pickP
    rw [if_pos hc, if_pos hc]
    rfl
  · have hc : ¬ ((u1 : Int) + 3) / 4 ≤ (u2 : Int) / 4 / 10 * 10 := by omega
    have hc2 : ((u1 : Int) + 3) / 4 < (u2 : Int) / 4 := by assumption
    refine (uscale_call _ 9223372036854775808 (H i) (L i) s _ _ rfl _ (by omega) (hH i hi6) (hL i hi6) (by omega) (by rw [World.cell?_drewN]; exact d0) (by rw [World.cell?_drewN]; exact d1) (by rw [World.cell?_drewN]; exact d2)).mono ?_
    rintro en w2 ⟨rfl, n3, rfl⟩
    rw [hu3]
    go_wp2_with fail
    refine (round_call _ (by omega) (by omega) _).mono ?_
    rintro en w3 ⟨rfl, rfl⟩
    go_wp2_with fail
    go_ret2
    refine ⟨?_, below_drewN (((Below.refl _ w').alloc (Nat.le_refl _) _).trans hB) _⟩
    rw [hmin, hmax, hr, hi]
    unfold pickD pickP
    rw [if_neg (show ¬ ((u1 : Int) + 3) / 4 ≤ (u2 : Int) / 4 / 10 * 10 by omega), if_neg (show ¬ ((u1 : Int) + 3) / 4 ≤ (u2 : Int) / 4 / 10 * 10 by omega), if_pos hc2]
    rfl
  · have hc : ¬ ((u1 : Int) + 3) / 4 ≤ (u2 : Int) / 4 / 10 * 10 := by omega
    have hc2 : ¬ ((u1 : Int) + 3) / 4 < (u2 : Int) / 4 := by omega
    go_ret2
    refine ⟨?_, below_drewN (((Below.refl _ w').alloc (Nat.le_refl _) _).trans hB) _⟩
    rw [hmin, hmax, hi]
    unfold pickD pickP
    rw [if_neg hc, if_neg hc2, if_neg hc]
    rfl
theorem shortC (H L : Nat → Nat) (hH0 : ∀ i, i < 696 → 9223372036854775808 ≤ H i) (hH : ∀ i, i < 696 → H i < 18446744073709551616) (hL : ∀ i, i < 696 → L i < 18446744073709551616)
    (m : Nat) (e : Int) (Z : Nat) (hm0 : 9223372036854775808 ≤ m) (hz : 11 + (-1085 - e) = ((Z + 1 : Nat) : Int)) (hm : m + 2 ^ Z < 18446744073709551616) (he0 : -1137 ≤ e) (he1 : e < -1085) :
    ∃ (d : Nat) (p : Int), 1 ≤ d ∧ d < 18446744073709551616 ∧ -400 ≤ p ∧ p ≤ 400 ∧ ∀ w : World, PowTab w H L →
      Calls Tryz.prog 228 #[.int .u64 m, .int .i64 e] w fun en w' => en = .returned (.tuple #[.int .u64 d, .int .i64 p]) ∧ Below w.heap.size w w' := by
  have hZ0 : 11 ≤ Z := by omega
  have hZ1 : Z ≤ 62 := by omega
  have hq1 : 2 ^ Z ≤ 2 ^ 62 := Nat.pow_le_pow_right (by decide) hZ1
  obtain ⟨q, hq⟩ : ∃ q : Nat, 2 ^ Z = q := ⟨_, rfl⟩
  have hA : IntKind.u64.wrap ((2 : Int) ^ Z) = (q : Int) := by
    rw [show ((2 : Int) ^ Z) = (q : Int) by rw [← hq, Int.natCast_pow]; rfl, IntKind.wrap_u64]
    rw [hq] at hq1
    omega
  rw [hq] at hm hq1
  obtain ⟨p, hp⟩ : ∃ p : Int, p = 324 := ⟨_, rfl⟩
  obtain ⟨i, hi⟩ : ∃ i : Nat, p = (i : Int) - 348 := ⟨672, by omega⟩
  have hi6 : i < 696 := by omega
  obtain ⟨s, hs⟩ : ∃ s : Nat, -(e + p * 108853 / 32768 + 3) = (s : Int) := ⟨(-(e + p * 108853 / 32768 + 3)).toNat, by omega⟩
  have hs5 : 5 ≤ s := by omega
  have hs58 : s ≤ 58 := by omega
  obtain ⟨u1, hu1, lo1, up1⟩ := usc_bounds (x := m - q) (lo := L i) (by omega) (by omega) (hH0 i hi6) (hH i hi6) hs5 hs58
  obtain ⟨u2, hu2, lo2, up2⟩ := usc_bounds (x := m + q) (lo := L i) (by omega) (by omega) (hH0 i hi6) (hH i hi6) hs5 hs58
  obtain ⟨u3, hu3, lo3, up3⟩ := usc_bounds (x := m) (lo := L i) (by omega) (by omega) (hH0 i hi6) (hH i hi6) hs5 hs58
  obtain ⟨k, hk, hk0, hk1⟩ : ∃ k : Int, bits BinOp.and IntKind.i64 (wrap64 ((m : Int) / 2 ^ (Z + 1))) 1 = k ∧ 0 ≤ k ∧ k ≤ 1 := by
    refine ⟨_, rfl, ?_⟩
    have hle : m / 2 ^ (Z + 1) ≤ m / 2 ^ 12 := Nat.div_le_div_left (Nat.pow_le_pow_right (by decide) (by omega)) (by decide)
    rw [show ((m : Int) / 2 ^ (Z + 1)) = ((m / 2 ^ (Z + 1) : Nat) : Int) by rw [Int.natCast_ediv, Int.natCast_pow]; rfl]
    generalize m / 2 ^ (Z + 1) = a at hle
    have := Go.Proofs.and_one a (by omega)
    rw [IntWalk.wrap64_in _ ⟨by omega, by omega⟩, this]
    omega
  obtain ⟨dmin, hmin⟩ : ∃ d : Int, d = ((u1 : Int) + k + 3) / 4 := ⟨_, rfl⟩
  obtain ⟨dmax, hmax⟩ : ∃ d : Int, d = ((u2 : Int) + -k) / 4 := ⟨_, rfl⟩
  obtain ⟨r, hr⟩ : ∃ d : Int, d = ((u3 : Int) + 1 + (u3 : Int) / 4 % 2) / 4 := ⟨_, rfl⟩
  have hD : 1 ≤ pickD dmin dmax r ∧ pickD dmin dmax r < 18446744073709551616 := by
    unfold pickD
    split
    · omega
    · split <;> omega
  have hP : -400 ≤ pickP dmin dmax p ∧ pickP dmin dmax p ≤ 400 := by
    unfold pickP
    split <;> omega
  refine ⟨(pickD dmin dmax r).toNat, pickP dmin dmax p, by omega, by omega, hP.1, hP.2, fun w hT => ?_⟩
  rw [show (((pickD dmin dmax r).toNat : Nat) : Int) = pickD dmin dmax r by omega]
  have hp' : -((e + ((Z : Int) + 1)) * 78913 / 262144) = 324 := by omega
  obtain ⟨bm, hbm⟩ : ∃ bm, ((m : Int) == 9223372036854775808) = bm := ⟨_, rfl⟩
  go_enter Tryz.func228, Tryz.ntmps228
  go_wp2_with fail
  all_goals (
    refine (log10_call (e + ((Z : Int) + 1)) (by omega) (by omega) _).mono ?_
    rintro en w' ⟨rfl, rfl⟩
    go_wp2_with fail
    refine (log2_call _ (by omega) (by omega) _).mono ?_
    rintro en w' ⟨rfl, rfl⟩
    go_wp2_with fail
    refine (prescale_call _ _ H L (hT.alloc _) i hi6 _ (by omega) e _ (by omega) (by omega) (by omega) (by omega) _ _ _ (by simp; rfl) (by simp; rfl) (by simp; rfl) (by simp) (by simp) (by simp)).mono ?_
    rintro en w1 ⟨rfl, d0, d1, d2, hsz, hB⟩
    rw [show -(e + 1076 + 3) = (s : Int) by omega] at d2
    go_wp2_with fail
    refine (uscale_call _ (m - q) (H i) (L i) s _ _ (by omega) _ (by omega) (hH i hi6) (hL i hi6) (by omega) d0 d1 d2).mono ?_
    rintro en w2 ⟨rfl, n1, rfl⟩
    rw [hu1]
    go_wp2_with fail
    refine (nudge_call _ _ (by omega) (by omega) (by omega) (by omega) (by omega) _).mono ?_
    rintro en w3 ⟨rfl, rfl⟩
    go_wp2_with fail
    refine (ceil_call _ (by omega) (by omega) _).mono ?_
    rintro en w3 ⟨rfl, rfl⟩
    go_wp2_with fail
    refine (uscale_call _ (m + q) (H i) (L i) s _ _ (by omega) _ (by omega) (hH i hi6) (hL i hi6) (by omega) (by rw [World.cell?_drewN]; exact d0) (by rw [World.cell?_drewN]; exact d1) (by rw [World.cell?_drewN]; exact d2)).mono ?_
    rintro en w2 ⟨rfl, n2, rfl⟩
    rw [hu2]
    go_wp2_with fail
    refine (nudge_call _ _ (by omega) (by omega) (by omega) (by omega) (by omega) _).mono ?_
    rintro en w3 ⟨rfl, rfl⟩
    go_wp2_with fail
    refine (floor_call _ (by omega) (by omega) _).mono ?_
    rintro en w3 ⟨rfl, rfl⟩
    go_wp2_with fail
    · have hc : ((u1 : Int) + k + 3) / 4 ≤ ((u2 : Int) + -k) / 4 / 10 * 10 := by assumption
      go_ret2
      refine ⟨?_, below_drewN (((Below.refl _ w').alloc (Nat.le_refl _) _).trans hB) _⟩
      rw [hmin, hmax, hp]
      unfold pickD pickP
      rw [if_pos hc, if_pos hc]
      rfl
    · have hc : ¬ ((u1 : Int) + k + 3) / 4 ≤ ((u2 : Int) + -k) / 4 / 10 * 10 := by omega
      have hc2 : ((u1 : Int) + k + 3) / 4 < ((u2 : Int) + -k) / 4 := by assumption
      refine (uscale_call _ m (H i) (L i) s _ _ rfl _ (by omega) (hH i hi6) (hL i hi6) (by omega) (by rw [World.cell?_drewN]; exact d0) (by rw [World.cell?_drewN]; exact d1) (by rw [World.cell?_drewN]; exact d2)).mono ?_
      rintro en w2 ⟨rfl, n3, rfl⟩
      rw [hu3]
      go_wp2_with fail
      refine (round_call _ (by omega) (by omega) _).mono ?_
      rintro en w3 ⟨rfl, rfl⟩
      go_wp2_with fail
      go_ret2
      refine ⟨?_, below_drewN (((Below.refl _ w').alloc (Nat.le_refl _) _).trans hB) _⟩
      rw [hmin, hmax, hr, hp]
      unfold pickD pickP
      rw [if_neg (show ¬ ((u1 : Int) + k + 3) / 4 ≤ ((u2 : Int) + -k) / 4 / 10 * 10 by omega), if_neg (show ¬ ((u1 : Int) + k + 3) / 4 ≤ ((u2 : Int) + -k) / 4 / 10 * 10 by omega), if_pos hc2]
      rfl
    · have hc : ¬ ((u1 : Int) + k + 3) / 4 ≤ ((u2 : Int) + -k) / 4 / 10 * 10 := by omega
      have hc2 : ¬ ((u1 : Int) + k + 3) / 4 < ((u2 : Int) + -k) / 4 := by omega
      go_ret2
      refine ⟨?_, below_drewN (((Below.refl _ w').alloc (Nat.le_refl _) _).trans hB) _⟩
      rw [hmin, hmax, hp]
      unfold pickD pickP
      rw [if_neg hc, if_neg hc2, if_neg hc]
      rfl)
open Go Go.RowKit
set_option maxRecDepth 100000
theorem shortB2 (H L : Nat → Nat) (hH0 : ∀ i, i < 696 → 9223372036854775808 ≤ H i) (hH : ∀ i, i < 696 → H i < 18446744073709551616) (hL : ∀ i, i < 696 → L i < 18446744073709551616)
    (m : Nat) (e : Int) (hm0 : 9223372036854775808 ≤ m) (hm : m + 1024 < 18446744073709551616) (he0 : -1085 ≤ e) (he1 : e ≤ -1085) :
    ∃ (d : Nat) (p : Int), 1 ≤ d ∧ d < 18446744073709551616 ∧ -400 ≤ p ∧ p ≤ 400 ∧ ∀ w : World, PowTab w H L →
      Calls Tryz.prog 228 #[.int .u64 m, .int .i64 e] w fun en w' => en = .returned (.tuple #[.int .u64 d, .int .i64 p]) ∧ Below w.heap.size w w' := by
  obtain ⟨p, hp⟩ : ∃ p : Int, -((e + 11) * 78913 / 262144) = p := ⟨_, rfl⟩
  obtain ⟨i, hi⟩ : ∃ i : Nat, p = (i : Int) - 348 := ⟨(p + 348).toNat, by omega⟩
  have hi6 : i < 696 := by omega
  obtain ⟨s, hs⟩ : ∃ s : Nat, -(e + p * 108853 / 32768 + 3) = (s : Int) := ⟨(-(e + p * 108853 / 32768 + 3)).toNat, by omega⟩
  have hs5 : 5 ≤ s := by omega
  have hs58 : s ≤ 58 := by omega
  obtain ⟨u1, hu1, lo1, up1⟩ := usc_bounds (x := m - 1024) (lo := L i) (by omega) (by omega) (hH0 i hi6) (hH i hi6) hs5 hs58
  obtain ⟨u2, hu2, lo2, up2⟩ := usc_bounds (x := m + 1024) (lo := L i) (by omega) (by omega) (hH0 i hi6) (hH i hi6) hs5 hs58
  obtain ⟨u3, hu3, lo3, up3⟩ := usc_bounds (x := m) (lo := L i) (by omega) (by omega) (hH0 i hi6) (hH i hi6) hs5 hs58
  obtain ⟨k, hk, hk0, hk1⟩ : ∃ k : Int, bits BinOp.and IntKind.i64 ((m : Int) / 2048) 1 = k ∧ 0 ≤ k ∧ k ≤ 1 := by
    refine ⟨_, rfl, ?_⟩
    have := Go.Proofs.and_one (m / 2048) (by omega)
    rw [show ((m : Int) / 2048) = ((m / 2048 : Nat) : Int) by omega, this]
    omega
  obtain ⟨dmin, hmin⟩ : ∃ d : Int, d = ((u1 : Int) + k + 3) / 4 := ⟨_, rfl⟩
  obtain ⟨dmax, hmax⟩ : ∃ d : Int, d = ((u2 : Int) + -k) / 4 := ⟨_, rfl⟩
  obtain ⟨r, hr⟩ : ∃ d : Int, d = ((u3 : Int) + 1 + (u3 : Int) / 4 % 2) / 4 := ⟨_, rfl⟩
  have hD : 1 ≤ pickD dmin dmax r ∧ pickD dmin dmax r < 18446744073709551616 := by
    unfold pickD
    split
    · omega
    · split <;> omega
  have hP : -400 ≤ pickP dmin dmax p ∧ pickP dmin dmax p ≤ 400 := by
    unfold pickP
    split <;> omega
  refine ⟨(pickD dmin dmax r).toNat, pickP dmin dmax p, by omega, by omega, hP.1, hP.2, fun w hT => ?_⟩
  rw [show (((pickD dmin dmax r).toNat : Nat) : Int) = pickD dmin dmax r by omega]
  obtain ⟨bm, hbm⟩ : ∃ bm, ((m : Int) == 9223372036854775808) = bm := ⟨_, rfl⟩
  have hp' : -((e + 11) * 78913 / 262144) = p := hp
  go_enter Tryz.func228, Tryz.ntmps228
  go_wp2_with fail
  all_goals (
    refine (log10_call (e + 11) (by omega) (by omega) _).mono ?_
    rintro en w' ⟨rfl, rfl⟩
    go_wp2_with fail
    refine (log2_call _ (by omega) (by omega) _).mono ?_
    rintro en w' ⟨rfl, rfl⟩
    go_wp2_with fail
    refine (prescale_call _ _ H L (hT.alloc _) i hi6 _ (by omega) e _ (by omega) (by omega) (by omega) (by omega) _ _ _ (by simp; rfl) (by simp; rfl) (by simp; rfl) (by simp) (by simp) (by simp)).mono ?_
    rintro en w1 ⟨rfl, d0, d1, d2, hsz, hB⟩
    rw [show -(e + ((i : Int) - 348) * 108853 / 32768 + 3) = (s : Int) by omega] at d2
    go_wp2_with fail
    refine (uscale_call _ (m - 1024) (H i) (L i) s _ _ (by omega) _ (by omega) (hH i hi6) (hL i hi6) (by omega) d0 d1 d2).mono ?_
    rintro en w2 ⟨rfl, n1, rfl⟩
    rw [hu1]
    go_wp2_with fail
    refine (nudge_call _ _ (by omega) (by omega) (by omega) (by omega) (by omega) _).mono ?_
    rintro en w3 ⟨rfl, rfl⟩
    go_wp2_with fail
    refine (ceil_call _ (by omega) (by omega) _).mono ?_
    rintro en w3 ⟨rfl, rfl⟩
    go_wp2_with fail
    refine (uscale_call _ (m + 1024) (H i) (L i) s _ _ (by omega) _ (by omega) (hH i hi6) (hL i hi6) (by omega) (by rw [World.cell?_drewN]; exact d0) (by rw [World.cell?_drewN]; exact d1) (by rw [World.cell?_drewN]; exact d2)).mono ?_
    rintro en w2 ⟨rfl, n2, rfl⟩
    rw [hu2]
    go_wp2_with fail
    refine (nudge_call _ _ (by omega) (by omega) (by omega) (by omega) (by omega) _).mono ?_
    rintro en w3 ⟨rfl, rfl⟩
    go_wp2_with fail
    refine (floor_call _ (by omega) (by omega) _).mono ?_
    rintro en w3 ⟨rfl, rfl⟩
    go_wp2_with fail
    · have hc : ((u1 : Int) + k + 3) / 4 ≤ ((u2 : Int) + -k) / 4 / 10 * 10 := by assumption
      go_ret2
      refine ⟨?_, below_drewN (((Below.refl _ w').alloc (Nat.le_refl _) _).trans hB) _⟩
      rw [hmin, hmax, hi]
      unfold pickD pickP
      rw [if_pos hc, if_pos hc]
      rfl
    · have hc : ¬ ((u1 : Int) + k + 3) / 4 ≤ ((u2 : Int) + -k) / 4 / 10 * 10 := by omega
      have hc2 : ((u1 : Int) + k + 3) / 4 < ((u2 : Int) + -k) / 4 := by assumption
      refine (uscale_call _ m (H i) (L i) s _ _ rfl _ (by omega) (hH i hi6) (hL i hi6) (by omega) (by rw [World.cell?_drewN]; exact d0) (by rw [World.cell?_drewN]; exact d1) (by rw [World.cell?_drewN]; exact d2)).mono ?_
      rintro en w2 ⟨rfl, n3, rfl⟩
      rw [hu3]
      go_wp2_with fail
      refine (round_call _ (by omega) (by omega) _).mono ?_
      rintro en w3 ⟨rfl, rfl⟩
      go_wp2_with fail
      go_ret2
      refine ⟨?_, below_drewN (((Below.refl _ w').alloc (Nat.le_refl _) _).trans hB) _⟩
      rw [hmin, hmax, hr, hi]
      unfold pickD pickP
      rw [if_neg (show ¬ ((u1 : Int) + k + 3) / 4 ≤ ((u2 : Int) + -k) / 4 / 10 * 10 by omega), if_neg (show ¬ ((u1 : Int) + k + 3) / 4 ≤ ((u2 : Int) + -k) / 4 / 10 * 10 by omega), if_pos hc2]
      rfl
    · have hc : ¬ ((u1 : Int) + k + 3) / 4 ≤ ((u2 : Int) + -k) / 4 / 10 * 10 := by omega
      have hc2 : ¬ ((u1 : Int) + k + 3) / 4 < ((u2 : Int) + -k) / 4 := by omega
      go_ret2
      refine ⟨?_, below_drewN (((Below.refl _ w').alloc (Nat.le_refl _) _).trans hB) _⟩
      rw [hmin, hmax, hi]
      unfold pickD pickP
      rw [if_neg hc, if_neg hc2, if_neg hc]
      rfl)
theorem short_call (H L : Nat → Nat) (hH0 : ∀ i, i < 696 → 9223372036854775808 ≤ H i) (hH : ∀ i, i < 696 → H i < 18446744073709551616) (hL : ∀ i, i < 696 → L i < 18446744073709551616)
    (m : Nat) (e : Int) (hm0 : 9223372036854775808 ≤ m) (he0 : -1137 ≤ e) (he1 : e ≤ 971) (hB : -1085 ≤ e → m + 1024 < 18446744073709551616)
    (hC : ∀ Z : Nat, e < -1085 → 11 + (-1085 - e) = ((Z + 1 : Nat) : Int) → m + 2 ^ Z < 18446744073709551616) :
    ∃ (d : Nat) (p : Int), 1 ≤ d ∧ d < 18446744073709551616 ∧ -400 ≤ p ∧ p ≤ 400 ∧ ∀ w : World, PowTab w H L →
      Calls Tryz.prog 228 #[.int .u64 m, .int .i64 e] w fun en w' => en = .returned (.tuple #[.int .u64 d, .int .i64 p]) ∧ Below w.heap.size w w' := by
  by_cases h1 : e < -1085
  · have hz : 11 + (-1085 - e) = (((10 + (-1085 - e)).toNat + 1 : Nat) : Int) := by omega
    exact shortC H L hH0 hH hL m e _ hm0 hz (hC _ h1 hz) he0 h1
  · by_cases h2 : e ≤ -1085
    · exact shortB2 H L hH0 hH hL m e hm0 (hB (by omega)) (by omega) h2
    · by_cases h3 : m = 9223372036854775808
      · subst h3
        exact shortA H L hH0 hH hL e (by omega) he1
      · exact shortB H L hH0 hH hL m e hm0 (hB (by omega)) h3 (by omega) he1
end Go.Proofs.YtkeibmkcgnppeaaGreatDoor

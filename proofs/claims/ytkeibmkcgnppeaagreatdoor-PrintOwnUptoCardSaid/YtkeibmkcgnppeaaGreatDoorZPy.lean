/- How tightly terms hold, and the operators signs. -/
import Derived.Test.YtkeibmkcgnppeaaGreatDoorZPd
set_option maxHeartbeats 32000000
namespace Go.Proofs.YtkeibmkcgnppeaaGreatDoor
open Go Go.RowKit
set_option maxRecDepth 100000
theorem plevel_call (k : Int) : ∃ v : Int, ∀ w, Calls Tryz.prog 83 #[.int .i64 k] w fun e w' => e = .returned (.int .i64 v) ∧ w' = w := by
  have hk : k ≤ 0 ∨ (1 ≤ k ∧ k ≤ 8) ∨ (18 ≤ k ∧ k ≤ 23) ∨ 26 ≤ k ∨ k = 9 ∨ k = 10 ∨ k = 11 ∨ k = 12 ∨ k = 13 ∨ k = 14 ∨ k = 15 ∨ k = 16 ∨ k = 17 ∨ k = 24 ∨ k = 25 := by omega
  rcases hk with h | h | h | h | rfl | rfl | rfl | rfl | rfl | rfl | rfl | rfl | rfl | rfl | rfl
  · refine ⟨0, fun w => ?_⟩
    have a1 : ((1 : Int) ≤ k) = False := eq_false (by omega)
    have a18 : ((18 : Int) ≤ k) = False := eq_false (by omega)
    have e9 : (k == (9 : Int)) = false := by rw [beq_eq_false_iff_ne]; omega
    have e10 : (k == (10 : Int)) = false := by rw [beq_eq_false_iff_ne]; omega
    have e11 : (k == (11 : Int)) = false := by rw [beq_eq_false_iff_ne]; omega
    have e12 : (k == (12 : Int)) = false := by rw [beq_eq_false_iff_ne]; omega
    have e13 : (k == (13 : Int)) = false := by rw [beq_eq_false_iff_ne]; omega
    have e14 : (k == (14 : Int)) = false := by rw [beq_eq_false_iff_ne]; omega
    have e15 : (k == (15 : Int)) = false := by rw [beq_eq_false_iff_ne]; omega
    have e16 : (k == (16 : Int)) = false := by rw [beq_eq_false_iff_ne]; omega
    have e17 : (k == (17 : Int)) = false := by rw [beq_eq_false_iff_ne]; omega
    have e24 : (k == (24 : Int)) = false := by rw [beq_eq_false_iff_ne]; omega
    have e25 : (k == (25 : Int)) = false := by rw [beq_eq_false_iff_ne]; omega
    go_enter Tryz.func83, Tryz.ntmps83
    go_wp2_with fail
    go_ret
    exact ⟨rfl, rfl⟩
  · refine ⟨10, fun w => ?_⟩
    have a1 : ((1 : Int) ≤ k) = True := eq_true (by omega)
    have b8 : (k ≤ (8 : Int)) = True := eq_true (by omega)
    go_enter Tryz.func83, Tryz.ntmps83
    go_wp2_with fail
    go_ret
    exact ⟨rfl, rfl⟩
  · refine ⟨1, fun w => ?_⟩
    have a1 : ((1 : Int) ≤ k) = True := eq_true (by omega)
    have b8 : (k ≤ (8 : Int)) = False := eq_false (by omega)
    have a18 : ((18 : Int) ≤ k) = True := eq_true (by omega)
    have b23 : (k ≤ (23 : Int)) = True := eq_true (by omega)
    go_enter Tryz.func83, Tryz.ntmps83
    go_wp2_with fail
    go_ret
    exact ⟨rfl, rfl⟩
  · refine ⟨0, fun w => ?_⟩
    have a1 : ((1 : Int) ≤ k) = True := eq_true (by omega)
    have b8 : (k ≤ (8 : Int)) = False := eq_false (by omega)
    have a18 : ((18 : Int) ≤ k) = True := eq_true (by omega)
    have b23 : (k ≤ (23 : Int)) = False := eq_false (by omega)
    have e9 : (k == (9 : Int)) = false := by rw [beq_eq_false_iff_ne]; omega
    have e10 : (k == (10 : Int)) = false := by rw [beq_eq_false_iff_ne]; omega
    have e11 : (k == (11 : Int)) = false := by rw [beq_eq_false_iff_ne]; omega
    have e12 : (k == (12 : Int)) = false := by rw [beq_eq_false_iff_ne]; omega
    have e13 : (k == (13 : Int)) = false := by rw [beq_eq_false_iff_ne]; omega
    have e14 : (k == (14 : Int)) = false := by rw [beq_eq_false_iff_ne]; omega
    have e15 : (k == (15 : Int)) = false := by rw [beq_eq_false_iff_ne]; omega
    have e16 : (k == (16 : Int)) = false := by rw [beq_eq_false_iff_ne]; omega
    have e17 : (k == (17 : Int)) = false := by rw [beq_eq_false_iff_ne]; omega
    have e24 : (k == (24 : Int)) = false := by rw [beq_eq_false_iff_ne]; omega
    have e25 : (k == (25 : Int)) = false := by rw [beq_eq_false_iff_ne]; omega
    go_enter Tryz.func83, Tryz.ntmps83
    go_wp2_with fail
    go_ret
    exact ⟨rfl, rfl⟩
  · refine ⟨7, fun w => ?_⟩
    go_enter Tryz.func83, Tryz.ntmps83
    go_wp2_with fail
    go_ret
    exact ⟨rfl, rfl⟩
  · refine ⟨7, fun w => ?_⟩
    go_enter Tryz.func83, Tryz.ntmps83
    go_wp2_with fail
    go_ret
    exact ⟨rfl, rfl⟩
  · refine ⟨6, fun w => ?_⟩
    go_enter Tryz.func83, Tryz.ntmps83
    go_wp2_with fail
    go_ret
    exact ⟨rfl, rfl⟩
  · refine ⟨5, fun w => ?_⟩
    go_enter Tryz.func83, Tryz.ntmps83
    go_wp2_with fail
    go_ret
    exact ⟨rfl, rfl⟩
  · refine ⟨4, fun w => ?_⟩
    go_enter Tryz.func83, Tryz.ntmps83
    go_wp2_with fail
    go_ret
    exact ⟨rfl, rfl⟩
  · refine ⟨4, fun w => ?_⟩
    go_enter Tryz.func83, Tryz.ntmps83
    go_wp2_with fail
    go_ret
    exact ⟨rfl, rfl⟩
  · refine ⟨3, fun w => ?_⟩
    go_enter Tryz.func83, Tryz.ntmps83
    go_wp2_with fail
    go_ret
    exact ⟨rfl, rfl⟩
  · refine ⟨3, fun w => ?_⟩
    go_enter Tryz.func83, Tryz.ntmps83
    go_wp2_with fail
    go_ret
    exact ⟨rfl, rfl⟩
  · refine ⟨2, fun w => ?_⟩
    go_enter Tryz.func83, Tryz.ntmps83
    go_wp2_with fail
    go_ret
    exact ⟨rfl, rfl⟩
  · refine ⟨8, fun w => ?_⟩
    go_enter Tryz.func83, Tryz.ntmps83
    go_wp2_with fail
    go_ret
    exact ⟨rfl, rfl⟩
  · refine ⟨9, fun w => ?_⟩
    go_enter Tryz.func83, Tryz.ntmps83
    go_wp2_with fail
    go_ret
    exact ⟨rfl, rfl⟩
theorem sign_call (k : Int) (h0 : 9 ≤ k) (h1 : k ≤ 25) : ∃ t : ByteArray, t.size ≤ 2 ∧ ∀ w, Calls Tryz.prog 81 #[.int .i64 k] w fun e w' => e = .returned (.string t) ∧ Below w.heap.size w w' := by
  have hk : k = 9 ∨ k = 10 ∨ k = 11 ∨ k = 12 ∨ k = 13 ∨ k = 14 ∨ k = 15 ∨ k = 16 ∨ k = 17 ∨ k = 18 ∨ k = 19 ∨ k = 20 ∨ k = 21 ∨ k = 22 ∨ k = 23 ∨ k = 24 ∨ k = 25 := by omega
  rcases hk with rfl | rfl | rfl | rfl | rfl | rfl | rfl | rfl | rfl | rfl | rfl | rfl | rfl | rfl | rfl | rfl | rfl
  · refine ⟨⟨#[43]⟩, by decide, fun w => ?_⟩
    go_enter Tryz.func81, Tryz.ntmps81
    go_wp2_with fail
    go_ret
    exact ⟨rfl, (Below.refl _ _).alloc (Nat.le_refl _) _⟩
  · refine ⟨⟨#[45]⟩, by decide, fun w => ?_⟩
    go_enter Tryz.func81, Tryz.ntmps81
    go_wp2_with fail
    go_ret
    exact ⟨rfl, (Below.refl _ _).alloc (Nat.le_refl _) _⟩
  · refine ⟨⟨#[37]⟩, by decide, fun w => ?_⟩
    go_enter Tryz.func81, Tryz.ntmps81
    go_wp2_with fail
    go_ret
    exact ⟨rfl, (Below.refl _ _).alloc (Nat.le_refl _) _⟩
  · refine ⟨⟨#[94]⟩, by decide, fun w => ?_⟩
    go_enter Tryz.func81, Tryz.ntmps81
    go_wp2_with fail
    go_ret
    exact ⟨rfl, (Below.refl _ _).alloc (Nat.le_refl _) _⟩
  · refine ⟨⟨#[42]⟩, by decide, fun w => ?_⟩
    go_enter Tryz.func81, Tryz.ntmps81
    go_wp2_with fail
    go_ret
    exact ⟨rfl, (Below.refl _ _).alloc (Nat.le_refl _) _⟩
  · refine ⟨⟨#[47]⟩, by decide, fun w => ?_⟩
    go_enter Tryz.func81, Tryz.ntmps81
    go_wp2_with fail
    go_ret
    exact ⟨rfl, (Below.refl _ _).alloc (Nat.le_refl _) _⟩
  · refine ⟨⟨#[43]⟩, by decide, fun w => ?_⟩
    go_enter Tryz.func81, Tryz.ntmps81
    go_wp2_with fail
    go_ret
    exact ⟨rfl, (Below.refl _ _).alloc (Nat.le_refl _) _⟩
  · refine ⟨⟨#[45]⟩, by decide, fun w => ?_⟩
    go_enter Tryz.func81, Tryz.ntmps81
    go_wp2_with fail
    go_ret
    exact ⟨rfl, (Below.refl _ _).alloc (Nat.le_refl _) _⟩
  · refine ⟨⟨#[38]⟩, by decide, fun w => ?_⟩
    go_enter Tryz.func81, Tryz.ntmps81
    go_wp2_with fail
    go_ret
    exact ⟨rfl, (Below.refl _ _).alloc (Nat.le_refl _) _⟩
  · refine ⟨⟨#[61]⟩, by decide, fun w => ?_⟩
    go_enter Tryz.func81, Tryz.ntmps81
    go_wp2_with fail
    go_ret
    exact ⟨rfl, (Below.refl _ _).alloc (Nat.le_refl _) _⟩
  · refine ⟨⟨#[60, 62]⟩, by decide, fun w => ?_⟩
    go_enter Tryz.func81, Tryz.ntmps81
    go_wp2_with fail
    go_ret
    exact ⟨rfl, (Below.refl _ _).alloc (Nat.le_refl _) _⟩
  · refine ⟨⟨#[60]⟩, by decide, fun w => ?_⟩
    go_enter Tryz.func81, Tryz.ntmps81
    go_wp2_with fail
    go_ret
    exact ⟨rfl, (Below.refl _ _).alloc (Nat.le_refl _) _⟩
  · refine ⟨⟨#[60, 61]⟩, by decide, fun w => ?_⟩
    go_enter Tryz.func81, Tryz.ntmps81
    go_wp2_with fail
    go_ret
    exact ⟨rfl, (Below.refl _ _).alloc (Nat.le_refl _) _⟩
  · refine ⟨⟨#[62]⟩, by decide, fun w => ?_⟩
    go_enter Tryz.func81, Tryz.ntmps81
    go_wp2_with fail
    go_ret
    exact ⟨rfl, (Below.refl _ _).alloc (Nat.le_refl _) _⟩
  · refine ⟨⟨#[62, 61]⟩, by decide, fun w => ?_⟩
    go_enter Tryz.func81, Tryz.ntmps81
    go_wp2_with fail
    go_ret
    exact ⟨rfl, (Below.refl _ _).alloc (Nat.le_refl _) _⟩
  · refine ⟨⟨#[126]⟩, by decide, fun w => ?_⟩
    go_enter Tryz.func81, Tryz.ntmps81
    go_wp2_with fail
    go_ret
    exact ⟨rfl, (Below.refl _ _).alloc (Nat.le_refl _) _⟩
  · refine ⟨⟨#[33]⟩, by decide, fun w => ?_⟩
    go_enter Tryz.func81, Tryz.ntmps81
    go_wp2_with fail
    go_ret
    exact ⟨rfl, (Below.refl _ _).alloc (Nat.le_refl _) _⟩
end Go.Proofs.YtkeibmkcgnppeaaGreatDoor

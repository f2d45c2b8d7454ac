/- Names, numbers, corners, errors: their tests. -/
import Derived.Test.YtkeibmkcgnppeaaGreatDoorZHa
import Derived.Test.YtkeibmkcgnppeaaGreatDoorZPa
import Derived.Laws.IdiomStrings
set_option maxHeartbeats 32000000
set_option linter.unusedSimpArgs false
set_option linter.unusedVariables false
namespace Go.Proofs.YtkeibmkcgnppeaaGreatDoor
open Go Go.RowKit
set_option maxRecDepth 100000
theorem amount_call {v : Nat} (h64 : v < 18446744073709551616) (least : Bool) : ∃ b : Bool, (b = true → absB v < 9218868437227405312) ∧ ∀ w, Calls Tryz.prog 166 #[.float .f64 v, .bool least] w fun e w' => e = .returned (.bool b) ∧ w' = w := by
  rcases Nat.lt_or_ge (absB v) 9218868437227405312 with hlt | hge
  · by_cases h0 : absB v = 0
    · have hz : v = 0 ∨ v = 9223372036854775808 := by unfold absB at h0; omega
      have h : FloatKind.f64.format.order v v = some .eq := by rcases hz with rfl | rfl <;> decide +kernel
      have h2 : FloatKind.f64.format.order (absB v) 9218868437227405311 ≠ some .gt := by rcases hz with rfl | rfl <;> decide +kernel
      have ho : FloatKind.f64.format.order v 0 = some .eq := by rcases hz with rfl | rfl <;> decide +kernel
      rcases hz with hv | hv
      · have cS : ∀ w, Calls Tryz.prog 44 #[.float .f64 v] w fun e w' => e = .returned (.bool false) ∧ w' = w := fun w => sign44 false (.inl ⟨hv, rfl⟩) w
        refine ⟨true, fun _ => hlt, fun w => ?_⟩
        clear hv h0 hlt
        cases least
        all_goals (
          go_enter Tryz.func166, Tryz.ntmps166
          go_wp2_with (first
            | (go_at_call 42; refine (nan_call h _).mono ?_; rintro e w' ⟨rfl, rfl⟩)
            | (go_at_call 43; refine (inf_call h2 _).mono ?_; rintro e w' ⟨rfl, rfl⟩)
            | (go_at_call 44; refine (cS _).mono ?_; rintro e w' ⟨rfl, rfl⟩))
          go_ret
          exact ⟨rfl, rfl⟩)
      · have cS : ∀ w, Calls Tryz.prog 44 #[.float .f64 v] w fun e w' => e = .returned (.bool true) ∧ w' = w := fun w => sign44 true (.inr ⟨hv, rfl⟩) w
        refine ⟨false, fun _ => hlt, fun w => ?_⟩
        clear hv h0 hlt
        cases least
        all_goals (
          go_enter Tryz.func166, Tryz.ntmps166
          go_wp2_with (first
            | (go_at_call 42; refine (nan_call h _).mono ?_; rintro e w' ⟨rfl, rfl⟩)
            | (go_at_call 43; refine (inf_call h2 _).mono ?_; rintro e w' ⟨rfl, rfl⟩)
            | (go_at_call 44; refine (cS _).mono ?_; rintro e w' ⟨rfl, rfl⟩))
          go_ret
          exact ⟨rfl, rfl⟩)
    · have F := fin_of (v := v) (by omega) hlt
      have hn : (FloatKind.f64.format.order v 0 != some .eq) = true := by simpa using F.nought
      have h := F.self
      have h2 := F.abs
      clear F
      have fin : ∀ o, FloatKind.f64.format.order v 0 = o → ∃ b : Bool, ∀ w, Calls Tryz.prog 166 #[.float .f64 v, .bool least] w fun e w' => e = .returned (.bool b) ∧ w' = w := by
        intro o ho
        refine ⟨o == some .gt || !least, fun w => ?_⟩
        clear h0 hlt
        rcases o with _ | (_ | _ | _)
        · cases least
          all_goals (
            go_enter Tryz.func166, Tryz.ntmps166
            go_wp2_with (first
              | (go_at_call 42; refine (nan_call h _).mono ?_; rintro e w' ⟨rfl, rfl⟩)
              | (go_at_call 43; refine (inf_call h2 _).mono ?_; rintro e w' ⟨rfl, rfl⟩))
            go_ret
            exact ⟨rfl, rfl⟩)
        · cases least
          all_goals (
            go_enter Tryz.func166, Tryz.ntmps166
            go_wp2_with (first
              | (go_at_call 42; refine (nan_call h _).mono ?_; rintro e w' ⟨rfl, rfl⟩)
              | (go_at_call 43; refine (inf_call h2 _).mono ?_; rintro e w' ⟨rfl, rfl⟩))
            go_ret
            exact ⟨rfl, rfl⟩)
        · rw [ho] at hn; cases hn
        · cases least
          all_goals (
            go_enter Tryz.func166, Tryz.ntmps166
            go_wp2_with (first
              | (go_at_call 42; refine (nan_call h _).mono ?_; rintro e w' ⟨rfl, rfl⟩)
              | (go_at_call 43; refine (inf_call h2 _).mono ?_; rintro e w' ⟨rfl, rfl⟩))
            go_ret
            exact ⟨rfl, rfl⟩)
      obtain ⟨b, hb⟩ := fin _ rfl
      exact ⟨b, fun _ => hlt, hb⟩
  · refine ⟨false, fun h => Bool.noConfusion h, fun w => ?_⟩
    by_cases hi : absB v = 9218868437227405312
    · have h : FloatKind.f64.format.order v v = some .eq := by
        have hz : v = 9218868437227405312 ∨ v = 18442240474082181120 := by unfold absB at hi; omega
        rcases hz with rfl | rfl <;> decide +kernel
      have h2 : FloatKind.f64.format.order (absB v) 9218868437227405311 = some .gt := by rw [hi]; decide +kernel
      have hr : ∀ w, (binOp .gtr 22 (.float .f64 (absB v)) (.float .f64 9218868437227405311)).run Tryz.prog w = .ok (.bool true) w := fun w => by
        rw [run_fgtr, h2]
        rfl
      have cI : ∀ w, Calls Tryz.prog 43 #[.float .f64 v, .int .i64 0] w fun e w' => e = .returned (.bool true) ∧ w' = w := by
        intro w
        go_enter Tryz.func43, Tryz.ntmps43
        go_wp2_with fail
        refine (abs_call v _).mono ?_
        rintro e w' ⟨rfl, rfl⟩
        go_wp2_with fail
        go_ret
        exact ⟨rfl, rfl⟩
      clear hi hge
      go_enter Tryz.func166, Tryz.ntmps166
      go_wp2_with (first
        | (go_at_call 42; refine (nan_call h _).mono ?_; rintro e w' ⟨rfl, rfl⟩)
        | (go_at_call 43; refine (cI _).mono ?_; rintro e w' ⟨rfl, rfl⟩))
      go_ret
      exact ⟨rfl, rfl⟩
    · have hg : 9218868437227405312 < absB v := by omega
      have hnn : (FloatKind.f64.format.order v v != some .eq) = true := by rw [Go.Proofs.YtkeibmkcgnppeaaGreatDoor.Rx.order_nan (by unfold absB at hg; exact hg)]; rfl
      have hr : ∀ w, (binOp .neq 22 (.float .f64 v) (.float .f64 v)).run Tryz.prog w = .ok (.bool true) w := fun w => by rw [run_fneq, hnn]
      have cN : ∀ w, Calls Tryz.prog 42 #[.float .f64 v] w fun e w' => e = .returned (.bool true) ∧ w' = w := by
        intro w
        go_enter Tryz.func42, Tryz.ntmps42
        go_wp2_with fail
        go_ret
        exact ⟨rfl, rfl⟩
      clear hi hge hg
      go_enter Tryz.func166, Tryz.ntmps166
      go_wp2_with (go_at_call 42; refine (cN _).mono ?_; rintro e w' ⟨rfl, rfl⟩)
      go_ret
      exact ⟨rfl, rfl⟩
theorem valid_term {W : World} (hg : Ck.Consts W) (hT : Ck.Tabs W) (s : ByteArray) (hs : s.size ≤ 9223372036854775807) (w : World) (hw : Ck.Later W w) :
    Calls Tryz.prog 167 #[.string s] w fun e w' => e = .returned (.bool (validT s && decide (s.size ≤ 32768))) ∧ Below w.heap.size w w' := by
  have c := chars_valid hg hT s hs w hw
  clear hg hT hw
  by_cases hz : s.size ≤ 32768
  · have hz1 : (s.size : Int) ≤ 32768 := by omega
    rw [show decide (s.size ≤ 32768) = true by simpa using hz]
    generalize validT s = q at c
    cases q
    all_goals (
      go_enter Tryz.func167, Tryz.ntmps167
      go_wp2_with (go_at_call 101; refine c.mono ?_; rintro e W1 ⟨⟨i, rfl⟩, hb1⟩)
      go_ret
      exact ⟨rfl, hb1⟩)
  · have hz1 : ¬ (s.size : Int) ≤ 32768 := by omega
    rw [show decide (s.size ≤ 32768) = false by simpa using hz]
    generalize validT s = q at c
    cases q
    all_goals (
      go_enter Tryz.func167, Tryz.ntmps167
      go_wp2_with (go_at_call 101; refine c.mono ?_; rintro e W1 ⟨⟨i, rfl⟩, hb1⟩)
      go_ret
      first
        | exact ⟨rfl, hb1⟩
        | (refine ⟨?_, hb1⟩; show Ending.returned (.bool (decide ((s.size : Int) ≤ 32768))) = _; rw [decide_eq_false (by omega)]; rfl))
def cornerOk (r c : Int) : Bool := decide (0 ≤ r) && decide (r < 1048576) && decide (0 ≤ c) && decide (c < 1024)
theorem corner_call (r c : Int) (b1 b2 : Bool) (w : World) :
    Calls Tryz.prog 169 #[.agg #[.int .i64 r, .int .i64 c, .bool b1, .bool b2]] w fun e w' => e = .returned (.bool (cornerOk r c)) ∧ Below w.heap.size w w' := by
  unfold cornerOk
  by_cases h1 : 0 ≤ r
  · by_cases h2 : r < 1048576
    · by_cases h3 : 0 ≤ c
      · by_cases h4 : c < 1024
        all_goals (
          rw [decide_eq_true h1, decide_eq_true h2, decide_eq_true h3]
          first | rw [decide_eq_true h4] | rw [decide_eq_false h4]
          go_enter Tryz.func169, Tryz.ntmps169
          go_wp2_with fail
          go_ret
          exact ⟨rfl, (Below.refl _ _).alloc (Nat.le_refl _) _⟩)
      · rw [decide_eq_true h1, decide_eq_true h2, decide_eq_false h3]
        go_enter Tryz.func169, Tryz.ntmps169
        go_wp2_with fail
        go_ret
        exact ⟨rfl, (Below.refl _ _).alloc (Nat.le_refl _) _⟩
    · rw [decide_eq_true h1, decide_eq_false h2]
      go_enter Tryz.func169, Tryz.ntmps169
      go_wp2_with fail
      go_ret
      exact ⟨rfl, (Below.refl _ _).alloc (Nat.le_refl _) _⟩
  · rw [decide_eq_false h1]
    go_enter Tryz.func169, Tryz.ntmps169
    go_wp2_with fail
    go_ret
    exact ⟨rfl, (Below.refl _ _).alloc (Nat.le_refl _) _⟩
open Go Go.RowKit
set_option maxRecDepth 100000
def letterB (c : Int) : Bool := (decide (97 ≤ c) && decide (c ≤ 122)) || (decide (65 ≤ c) && decide (c ≤ 90)) || decide (c = 95)
theorem letterB_iff (c : Int) : letterB c = true ↔ ((97 ≤ c ∧ c ≤ 122) ∨ (65 ≤ c ∧ c ≤ 90) ∨ c = 95) := by
  unfold letterB
  simp only [Bool.or_eq_true, Bool.and_eq_true, decide_eq_true_eq, or_assoc]
def digitB (c : Int) : Bool := decide (48 ≤ c) && decide (c ≤ 57)
theorem digitB_iff (c : Int) : digitB c = true ↔ (48 ≤ c ∧ c ≤ 57) := by
  unfold digitB
  simp only [Bool.and_eq_true, decide_eq_true_eq]
def innerB (c : Int) : Bool := letterB c || digitB c || (c == 46)
theorem letter_call (c : Int) (w : World) : Calls Tryz.prog 153 #[.int .i32 c] w fun e w' => e = .returned (.bool (letterB c)) ∧ w' = w := by
  have hc : (c ≤ 64) ∨ (65 ≤ c ∧ c ≤ 90) ∨ (91 ≤ c ∧ c ≤ 94) ∨ (95 ≤ c ∧ c ≤ 95) ∨ (96 ≤ c ∧ c ≤ 96) ∨ (97 ≤ c ∧ c ≤ 122) ∨ (123 ≤ c) := by omega
  rcases hc with h | h | h | h | h | h | h
  · have hb : letterB c = false := by
      exact Bool.eq_false_iff.2 fun e => by have := (letterB_iff c).1 e; omega
    rw [hb]
    clear hb
    have f0 : ¬ (97 : Int) ≤ c := by omega
    have f1 : c ≤ (122 : Int) := by omega
    have f2 : ¬ (65 : Int) ≤ c := by omega
    have f3 : c ≤ (90 : Int) := by omega
    have f4 : (c == (95 : Int)) = false := by rw [beq_eq_false_iff_ne]; omega
    go_enter Tryz.func153, Tryz.ntmps153
    go_wp2_with fail
    go_ret
    exact ⟨rfl, rfl⟩
  · have hb : letterB c = true := by
      exact (letterB_iff c).2 (by omega)
    rw [hb]
    clear hb
    have f0 : ¬ (97 : Int) ≤ c := by omega
    have f1 : c ≤ (122 : Int) := by omega
    have f2 : (65 : Int) ≤ c := by omega
    have f3 : c ≤ (90 : Int) := by omega
    have f4 : (c == (95 : Int)) = false := by rw [beq_eq_false_iff_ne]; omega
    go_enter Tryz.func153, Tryz.ntmps153
    go_wp2_with fail
    go_ret
    exact ⟨rfl, rfl⟩
  · have hb : letterB c = false := by
      exact Bool.eq_false_iff.2 fun e => by have := (letterB_iff c).1 e; omega
    rw [hb]
    clear hb
    have f0 : ¬ (97 : Int) ≤ c := by omega
    have f1 : c ≤ (122 : Int) := by omega
    have f2 : (65 : Int) ≤ c := by omega
    have f3 : ¬ c ≤ (90 : Int) := by omega
    have f4 : (c == (95 : Int)) = false := by rw [beq_eq_false_iff_ne]; omega
    go_enter Tryz.func153, Tryz.ntmps153
    go_wp2_with fail
    go_ret
    exact ⟨rfl, rfl⟩
  · have hb : letterB c = true := by
      exact (letterB_iff c).2 (by omega)
    rw [hb]
    clear hb
    have f0 : ¬ (97 : Int) ≤ c := by omega
    have f1 : c ≤ (122 : Int) := by omega
    have f2 : (65 : Int) ≤ c := by omega
    have f3 : ¬ c ≤ (90 : Int) := by omega
    have f4 : (c == (95 : Int)) = true := by rw [beq_iff_eq]; omega
    go_enter Tryz.func153, Tryz.ntmps153
    go_wp2_with fail
    go_ret
    exact ⟨rfl, rfl⟩
  · have hb : letterB c = false := by
      exact Bool.eq_false_iff.2 fun e => by have := (letterB_iff c).1 e; omega
    rw [hb]
    clear hb
    have f0 : ¬ (97 : Int) ≤ c := by omega
    have f1 : c ≤ (122 : Int) := by omega
    have f2 : (65 : Int) ≤ c := by omega
    have f3 : ¬ c ≤ (90 : Int) := by omega
    have f4 : (c == (95 : Int)) = false := by rw [beq_eq_false_iff_ne]; omega
    go_enter Tryz.func153, Tryz.ntmps153
    go_wp2_with fail
    go_ret
    exact ⟨rfl, rfl⟩
  · have hb : letterB c = true := by
      exact (letterB_iff c).2 (by omega)
    rw [hb]
    clear hb
    have f0 : (97 : Int) ≤ c := by omega
    have f1 : c ≤ (122 : Int) := by omega
    have f2 : (65 : Int) ≤ c := by omega
    have f3 : ¬ c ≤ (90 : Int) := by omega
    have f4 : (c == (95 : Int)) = false := by rw [beq_eq_false_iff_ne]; omega
    go_enter Tryz.func153, Tryz.ntmps153
    go_wp2_with fail
    go_ret
    exact ⟨rfl, rfl⟩
  · have hb : letterB c = false := by
      exact Bool.eq_false_iff.2 fun e => by have := (letterB_iff c).1 e; omega
    rw [hb]
    clear hb
    have f0 : (97 : Int) ≤ c := by omega
    have f1 : ¬ c ≤ (122 : Int) := by omega
    have f2 : (65 : Int) ≤ c := by omega
    have f3 : ¬ c ≤ (90 : Int) := by omega
    have f4 : (c == (95 : Int)) = false := by rw [beq_eq_false_iff_ne]; omega
    go_enter Tryz.func153, Tryz.ntmps153
    go_wp2_with fail
    go_ret
    exact ⟨rfl, rfl⟩
theorem digit_call (c : Int) (w : World) : Calls Tryz.prog 191 #[.int .i32 c] w fun e w' => e = .returned (.bool (digitB c)) ∧ w' = w := by
  have hc : (c ≤ 47) ∨ (48 ≤ c ∧ c ≤ 57) ∨ (58 ≤ c) := by omega
  rcases hc with h | h | h
  · have hb : digitB c = false := by
      exact Bool.eq_false_iff.2 fun e => by have := (digitB_iff c).1 e; omega
    rw [hb]
    clear hb
    have f0 : ¬ (48 : Int) ≤ c := by omega
    have f1 : c ≤ (57 : Int) := by omega
    go_enter Tryz.func191, Tryz.ntmps191
    go_wp2_with fail
    go_ret
    exact ⟨rfl, rfl⟩
  · have hb : digitB c = true := by
      exact (digitB_iff c).2 (by omega)
    rw [hb]
    clear hb
    have f0 : (48 : Int) ≤ c := by omega
    have f1 : c ≤ (57 : Int) := by omega
    go_enter Tryz.func191, Tryz.ntmps191
    go_wp2_with fail
    go_ret
    exact ⟨rfl, rfl⟩
  · have hb : digitB c = false := by
      exact Bool.eq_false_iff.2 fun e => by have := (digitB_iff c).1 e; omega
    rw [hb]
    clear hb
    have f0 : (48 : Int) ≤ c := by omega
    have f1 : ¬ c ≤ (57 : Int) := by omega
    go_enter Tryz.func191, Tryz.ntmps191
    go_wp2_with fail
    go_ret
    exact ⟨rfl, rfl⟩
theorem inner_call (c : Int) (w : World) : Calls Tryz.prog 154 #[.int .i32 c] w fun e w' => e = .returned (.bool (innerB c)) ∧ w' = w := by
  have c1 := fun w => letter_call c w
  have c2 := fun w => digit_call c w
  have hb : innerB c = (letterB c || digitB c || (c == 46)) := rfl
  rw [hb]
  generalize letterB c = a at c1
  generalize digitB c = b at c2
  clear hb
  cases he : (c == 46) <;> cases a <;> cases b
  all_goals (
    go_enter Tryz.func154, Tryz.ntmps154
    go_wp2_with (first
      | (go_at_call 153; refine (c1 _).mono ?_; rintro e w' ⟨rfl, rfl⟩)
      | (go_at_call 191; refine (c2 _).mono ?_; rintro e w' ⟨rfl, rfl⟩))
    go_ret
    exact ⟨rfl, rfl⟩)
theorem wrap32_byte (b : UInt8) : wrap32 (b.toNat : Int) = (b.toNat : Int) := by
  have h : b.toNat < 256 := b.toNat_lt
  unfold wrap32
  omega
attribute [local go_sem] wrap32_byte
def allInner (s : ByteArray) : Bool := s.data.toList.all fun c => innerB (c.toNat : Int)
def nameOk (s : ByteArray) : Bool := decide (s.size ≠ 0) && decide (s.size ≤ 64) && letterB ((s.data.toList.getD 0 0).toNat : Int) && allInner s
theorem byte_list (s : ByteArray) (j : Nat) (h : j < s.size) : s.data.toList[j]'h = s[j]'h := rfl
theorem name_call (s : ByteArray) (w : World) : Calls Tryz.prog 113 #[.string s] w fun e w' => e = .returned (.bool (nameOk s)) ∧ w' = w := by
  have hss : s.toList.isEmpty = decide (s.size = 0) := by
    rw [Bool.eq_iff_iff, decide_eq_true_eq, ByteArray.toList_eq, List.isEmpty_iff_length_eq_zero]
    exact Iff.rfl
  by_cases h0 : s.size = 0
  · have h1 : s.toList.isEmpty = true := by rw [hss]; simpa using h0
    have h2 : nameOk s = false := by simp [nameOk, h0]
    rw [h2]
    clear hss h2
    go_enter Tryz.func113, Tryz.ntmps113
    go_wp2_with fail
    go_ret
    exact ⟨rfl, rfl⟩
  · have h1 : s.toList.isEmpty = false := by rw [hss]; simpa using h0
    by_cases h3 : s.size ≤ 64
    · have h4 : ¬ (64 : Int) < (s.size : Int) := by omega
      have hp : 0 < s.size := by omega
      have hpz : (0 : Int) < (s.size : Int) := by omega
      have hd : s.data.toList.getD 0 0 = s[0] := by
        have : 0 < s.data.toList.length := hp
        rw [List.getD_eq_getElem?_getD, List.getElem?_eq_getElem this]
        rfl
      have cL := fun w => letter_call (s[0].toNat : Int) w
      have h2 : nameOk s = (letterB (s[0].toNat : Int) && allInner s) := by
        unfold nameOk
        rw [hd, decide_eq_true h0, decide_eq_true h3]
        rfl
      rw [h2]
      generalize letterB (s[0].toNat : Int) = q at cL
      clear h2 hss hd h3
      cases q
      · go_enter Tryz.func113, Tryz.ntmps113
        go_wp2_with (go_at_call 153; refine (cL _).mono ?_; rintro e w' ⟨rfl, rfl⟩)
        go_ret
        exact ⟨rfl, rfl⟩
      · go_enter Tryz.func113, Tryz.ntmps113
        go_wp2_with (go_at_call 153; refine (cL _).mono ?_; rintro e w' ⟨rfl, rfl⟩)
        go_loop [20] (fun i => ∃ j : Nat, i = .int .i64 j ∧ j ≤ s.size ∧ (∀ i (h : i < s.size), i < j → innerB ((s[i]'h).toNat : Int) = true)) (fun i => s.size - (intOf i).toNat)
        case atStart => exact ⟨0, rfl, Nat.zero_le _, fun i h hi => absurd hi (Nat.not_lt_zero _)⟩
        case round =>
          obtain ⟨j, rfl, hj, hall⟩ := hrel
          rcases Nat.lt_or_ge j s.size with hlt | hge
          · have hjz : (j : Int) < (s.size : Int) := by omega
            have hj0 : (0 : Int) ≤ (j : Int) := by omega
            have cI := fun w => inner_call ((s[j]'hlt).toNat : Int) w
            cases hq : innerB ((s[j]'hlt).toNat : Int)
            · rw [hq] at cI
              have hf : allInner s = false := by
                unfold allInner; rw [List.all_eq_false]
                exact ⟨s.data.toList[j]'hlt, List.getElem_mem _, by rw [byte_list, hq]; decide⟩
              have Hf := Lib.hid hf
              have Hall := Lib.hid hall
              clear hall hq hf
              go_wp2_with (go_at_call 154; refine (cI _).mono ?_; rintro e w' ⟨rfl, rfl⟩)
              go_ret
              refine ⟨?_, rfl⟩
              rw [Hf.out]
              rfl
            · rw [hq] at cI
              have Hall := Lib.hid hall
              have Hq := Lib.hid hq
              have Hlt := Lib.hid hlt
              clear hall hq
              go_wp2_with (go_at_call 154; refine (cI _).mono ?_; rintro e w' ⟨rfl, rfl⟩)
              refine ⟨⟨j + 1, rfl, Hlt.out, fun i h hi => ?_⟩, by have := Hlt.out; simp only [intOf]; omega⟩
              rcases Nat.lt_or_ge i j with h5 | h5
              · exact Hall.out i h h5
              · obtain rfl : i = j := by omega
                exact Hq.out
          · have hjz : ¬ (j : Int) < (s.size : Int) := by omega
            have hf : allInner s = true := by
              unfold allInner; rw [List.all_eq_true]
              intro c hc
              obtain ⟨i, hi, rfl⟩ := List.getElem_of_mem hc
              exact hall i hi (by have : i < s.size := hi; omega)
            have Hf := Lib.hid hf
            clear hall hf
            go_wp2_with fail
            go_ret
            refine ⟨?_, rfl⟩
            rw [Hf.out]
            rfl
    · have h4 : (64 : Int) < (s.size : Int) := by omega
      have h2 : nameOk s = false := by unfold nameOk; rw [decide_eq_false h3]; simp
      rw [h2]
      clear hss h2
      go_enter Tryz.func113, Tryz.ntmps113
      go_wp2_with fail
      go_ret
      exact ⟨rfl, rfl⟩
open Go Go.RowKit
set_option maxRecDepth 100000
def errTexts : Array Value := #[.string ⟨#[]⟩, .string ⟨#[35, 78, 85, 76, 76, 33]⟩, .string ⟨#[35, 68, 73, 86, 47, 48, 33]⟩, .string ⟨#[35, 86, 65, 76, 85, 69, 33]⟩, .string ⟨#[35, 82, 69, 70, 33]⟩, .string ⟨#[35, 78, 65, 77, 69, 63]⟩, .string ⟨#[35, 78, 85, 77, 33]⟩, .string ⟨#[35, 78, 47, 65]⟩, .string ⟨#[35, 67, 89, 67, 76, 69, 33]⟩, .string ⟨#[35, 76, 73, 77, 73, 84, 33]⟩]
theorem size182 : (Tryz.prog.info? 182).map (·.size) = some 10 := by kernel_rfl
theorem texts129 (w : World) : Calls Tryz.prog 129 #[] w fun e w' => e = .returned (.agg errTexts) ∧ Below w.heap.size w w' := by
  have hs := size182
  go_enter Tryz.func129, Tryz.ntmps129
  go_wp2_with fail
  refine bodyPost_ret (results_cell_row rfl _ _ w.heap.size 182 errTexts _ _ rfl (heap_alloc_new _ _) Tryz.underlying182 rfl size182) rfl ?_
  exact ⟨rfl, (Below.refl _ _).alloc (Nat.le_refl _) _⟩
def errT (k : Int) : ByteArray := if k = 1 then ⟨#[35, 78, 85, 76, 76, 33]⟩ else if k = 2 then ⟨#[35, 68, 73, 86, 47, 48, 33]⟩ else if k = 3 then ⟨#[35, 86, 65, 76, 85, 69, 33]⟩ else if k = 4 then ⟨#[35, 82, 69, 70, 33]⟩ else if k = 5 then ⟨#[35, 78, 65, 77, 69, 63]⟩ else if k = 6 then ⟨#[35, 78, 85, 77, 33]⟩ else if k = 7 then ⟨#[35, 78, 47, 65]⟩ else if k = 8 then ⟨#[35, 67, 89, 67, 76, 69, 33]⟩ else if k = 9 then ⟨#[35, 76, 73, 77, 73, 84, 33]⟩ else ⟨#[]⟩
theorem idx1 (w : World) : (Instr.index 182 (.agg #[.string ⟨#[]⟩, .string ⟨#[35, 78, 85, 76, 76, 33]⟩, .string ⟨#[35, 68, 73, 86, 47, 48, 33]⟩, .string ⟨#[35, 86, 65, 76, 85, 69, 33]⟩, .string ⟨#[35, 82, 69, 70, 33]⟩, .string ⟨#[35, 78, 65, 77, 69, 63]⟩, .string ⟨#[35, 78, 85, 77, 33]⟩, .string ⟨#[35, 78, 47, 65]⟩, .string ⟨#[35, 67, 89, 67, 76, 69, 33]⟩, .string ⟨#[35, 76, 73, 77, 73, 84, 33]⟩]) (.int .i64 1)).run Tryz.prog w = .ok (.string ⟨#[35, 78, 85, 76, 76, 33]⟩) w := by kernel_rfl
theorem idx2 (w : World) : (Instr.index 182 (.agg #[.string ⟨#[]⟩, .string ⟨#[35, 78, 85, 76, 76, 33]⟩, .string ⟨#[35, 68, 73, 86, 47, 48, 33]⟩, .string ⟨#[35, 86, 65, 76, 85, 69, 33]⟩, .string ⟨#[35, 82, 69, 70, 33]⟩, .string ⟨#[35, 78, 65, 77, 69, 63]⟩, .string ⟨#[35, 78, 85, 77, 33]⟩, .string ⟨#[35, 78, 47, 65]⟩, .string ⟨#[35, 67, 89, 67, 76, 69, 33]⟩, .string ⟨#[35, 76, 73, 77, 73, 84, 33]⟩]) (.int .i64 2)).run Tryz.prog w = .ok (.string ⟨#[35, 68, 73, 86, 47, 48, 33]⟩) w := by kernel_rfl
theorem idx3 (w : World) : (Instr.index 182 (.agg #[.string ⟨#[]⟩, .string ⟨#[35, 78, 85, 76, 76, 33]⟩, .string ⟨#[35, 68, 73, 86, 47, 48, 33]⟩, .string ⟨#[35, 86, 65, 76, 85, 69, 33]⟩, .string ⟨#[35, 82, 69, 70, 33]⟩, .string ⟨#[35, 78, 65, 77, 69, 63]⟩, .string ⟨#[35, 78, 85, 77, 33]⟩, .string ⟨#[35, 78, 47, 65]⟩, .string ⟨#[35, 67, 89, 67, 76, 69, 33]⟩, .string ⟨#[35, 76, 73, 77, 73, 84, 33]⟩]) (.int .i64 3)).run Tryz.prog w = .ok (.string ⟨#[35, 86, 65, 76, 85, 69, 33]⟩) w := by kernel_rfl
theorem idx4 (w : World) : (Instr.index 182 (.agg #[.string ⟨#[]⟩, .string ⟨#[35, 78, 85, 76, 76, 33]⟩, .string ⟨#[35, 68, 73, 86, 47, 48, 33]⟩, .string ⟨#[35, 86, 65, 76, 85, 69, 33]⟩, .string ⟨#[35, 82, 69, 70, 33]⟩, .string ⟨#[35, 78, 65, 77, 69, 63]⟩, .string ⟨#[35, 78, 85, 77, 33]⟩, .string ⟨#[35, 78, 47, 65]⟩, .string ⟨#[35, 67, 89, 67, 76, 69, 33]⟩, .string ⟨#[35, 76, 73, 77, 73, 84, 33]⟩]) (.int .i64 4)).run Tryz.prog w = .ok (.string ⟨#[35, 82, 69, 70, 33]⟩) w := by kernel_rfl
theorem idx5 (w : World) : (Instr.index 182 (.agg #[.string ⟨#[]⟩, .string ⟨#[35, 78, 85, 76, 76, 33]⟩, .string ⟨#[35, 68, 73, 86, 47, 48, 33]⟩, .string ⟨#[35, 86, 65, 76, 85, 69, 33]⟩, .string ⟨#[35, 82, 69, 70, 33]⟩, .string ⟨#[35, 78, 65, 77, 69, 63]⟩, .string ⟨#[35, 78, 85, 77, 33]⟩, .string ⟨#[35, 78, 47, 65]⟩, .string ⟨#[35, 67, 89, 67, 76, 69, 33]⟩, .string ⟨#[35, 76, 73, 77, 73, 84, 33]⟩]) (.int .i64 5)).run Tryz.prog w = .ok (.string ⟨#[35, 78, 65, 77, 69, 63]⟩) w := by kernel_rfl
theorem idx6 (w : World) : (Instr.index 182 (.agg #[.string ⟨#[]⟩, .string ⟨#[35, 78, 85, 76, 76, 33]⟩, .string ⟨#[35, 68, 73, 86, 47, 48, 33]⟩, .string ⟨#[35, 86, 65, 76, 85, 69, 33]⟩, .string ⟨#[35, 82, 69, 70, 33]⟩, .string ⟨#[35, 78, 65, 77, 69, 63]⟩, .string ⟨#[35, 78, 85, 77, 33]⟩, .string ⟨#[35, 78, 47, 65]⟩, .string ⟨#[35, 67, 89, 67, 76, 69, 33]⟩, .string ⟨#[35, 76, 73, 77, 73, 84, 33]⟩]) (.int .i64 6)).run Tryz.prog w = .ok (.string ⟨#[35, 78, 85, 77, 33]⟩) w := by kernel_rfl
theorem idx7 (w : World) : (Instr.index 182 (.agg #[.string ⟨#[]⟩, .string ⟨#[35, 78, 85, 76, 76, 33]⟩, .string ⟨#[35, 68, 73, 86, 47, 48, 33]⟩, .string ⟨#[35, 86, 65, 76, 85, 69, 33]⟩, .string ⟨#[35, 82, 69, 70, 33]⟩, .string ⟨#[35, 78, 65, 77, 69, 63]⟩, .string ⟨#[35, 78, 85, 77, 33]⟩, .string ⟨#[35, 78, 47, 65]⟩, .string ⟨#[35, 67, 89, 67, 76, 69, 33]⟩, .string ⟨#[35, 76, 73, 77, 73, 84, 33]⟩]) (.int .i64 7)).run Tryz.prog w = .ok (.string ⟨#[35, 78, 47, 65]⟩) w := by kernel_rfl
theorem idx8 (w : World) : (Instr.index 182 (.agg #[.string ⟨#[]⟩, .string ⟨#[35, 78, 85, 76, 76, 33]⟩, .string ⟨#[35, 68, 73, 86, 47, 48, 33]⟩, .string ⟨#[35, 86, 65, 76, 85, 69, 33]⟩, .string ⟨#[35, 82, 69, 70, 33]⟩, .string ⟨#[35, 78, 65, 77, 69, 63]⟩, .string ⟨#[35, 78, 85, 77, 33]⟩, .string ⟨#[35, 78, 47, 65]⟩, .string ⟨#[35, 67, 89, 67, 76, 69, 33]⟩, .string ⟨#[35, 76, 73, 77, 73, 84, 33]⟩]) (.int .i64 8)).run Tryz.prog w = .ok (.string ⟨#[35, 67, 89, 67, 76, 69, 33]⟩) w := by kernel_rfl
theorem idx9 (w : World) : (Instr.index 182 (.agg #[.string ⟨#[]⟩, .string ⟨#[35, 78, 85, 76, 76, 33]⟩, .string ⟨#[35, 68, 73, 86, 47, 48, 33]⟩, .string ⟨#[35, 86, 65, 76, 85, 69, 33]⟩, .string ⟨#[35, 82, 69, 70, 33]⟩, .string ⟨#[35, 78, 65, 77, 69, 63]⟩, .string ⟨#[35, 78, 85, 77, 33]⟩, .string ⟨#[35, 78, 47, 65]⟩, .string ⟨#[35, 67, 89, 67, 76, 69, 33]⟩, .string ⟨#[35, 76, 73, 77, 73, 84, 33]⟩]) (.int .i64 9)).run Tryz.prog w = .ok (.string ⟨#[35, 76, 73, 77, 73, 84, 33]⟩) w := by kernel_rfl
theorem err_call (k : Int) (w : World) : Calls Tryz.prog 77 #[.int .i64 k] w fun e w' => e = .returned (.string (errT k)) ∧ Below w.heap.size w w' := by
  have hk : k < 1 ∨ k = 1 ∨ k = 2 ∨ k = 3 ∨ k = 4 ∨ k = 5 ∨ k = 6 ∨ k = 7 ∨ k = 8 ∨ k = 9 ∨ 9 < k := by omega
  have ct := fun w => texts129 w
  unfold errTexts at ct
  rcases hk with h | rfl | rfl | rfl | rfl | rfl | rfl | rfl | rfl | rfl | h
  · rw [show errT k = ⟨#[]⟩ by unfold errT; simp only [show ¬ k = 1 by omega, show ¬ k = 2 by omega, show ¬ k = 3 by omega, show ¬ k = 4 by omega, show ¬ k = 5 by omega, show ¬ k = 6 by omega, show ¬ k = 7 by omega, show ¬ k = 8 by omega, show ¬ k = 9 by omega, if_false]]
    go_enter Tryz.func77, Tryz.ntmps77
    go_wp2_with fail
    go_ret
    exact ⟨rfl, Below.refl _ _⟩
  · have hi := idx1
    go_enter Tryz.func77, Tryz.ntmps77
    go_wp2_with (go_at_call 129; refine (ct _).mono ?_; rintro e w' ⟨rfl, hb⟩)
    go_ret
    exact ⟨rfl, hb⟩
  · have hi := idx2
    go_enter Tryz.func77, Tryz.ntmps77
    go_wp2_with (go_at_call 129; refine (ct _).mono ?_; rintro e w' ⟨rfl, hb⟩)
    go_ret
    exact ⟨rfl, hb⟩
  · have hi := idx3
    go_enter Tryz.func77, Tryz.ntmps77
    go_wp2_with (go_at_call 129; refine (ct _).mono ?_; rintro e w' ⟨rfl, hb⟩)
    go_ret
    exact ⟨rfl, hb⟩
  · have hi := idx4
    go_enter Tryz.func77, Tryz.ntmps77
    go_wp2_with (go_at_call 129; refine (ct _).mono ?_; rintro e w' ⟨rfl, hb⟩)
    go_ret
    exact ⟨rfl, hb⟩
  · have hi := idx5
    go_enter Tryz.func77, Tryz.ntmps77
    go_wp2_with (go_at_call 129; refine (ct _).mono ?_; rintro e w' ⟨rfl, hb⟩)
    go_ret
    exact ⟨rfl, hb⟩
  · have hi := idx6
    go_enter Tryz.func77, Tryz.ntmps77
    go_wp2_with (go_at_call 129; refine (ct _).mono ?_; rintro e w' ⟨rfl, hb⟩)
    go_ret
    exact ⟨rfl, hb⟩
  · have hi := idx7
    go_enter Tryz.func77, Tryz.ntmps77
    go_wp2_with (go_at_call 129; refine (ct _).mono ?_; rintro e w' ⟨rfl, hb⟩)
    go_ret
    exact ⟨rfl, hb⟩
  · have hi := idx8
    go_enter Tryz.func77, Tryz.ntmps77
    go_wp2_with (go_at_call 129; refine (ct _).mono ?_; rintro e w' ⟨rfl, hb⟩)
    go_ret
    exact ⟨rfl, hb⟩
  · have hi := idx9
    go_enter Tryz.func77, Tryz.ntmps77
    go_wp2_with (go_at_call 129; refine (ct _).mono ?_; rintro e w' ⟨rfl, hb⟩)
    go_ret
    exact ⟨rfl, hb⟩
  · rw [show errT k = ⟨#[]⟩ by unfold errT; simp only [show ¬ k = 1 by omega, show ¬ k = 2 by omega, show ¬ k = 3 by omega, show ¬ k = 4 by omega, show ¬ k = 5 by omega, show ¬ k = 6 by omega, show ¬ k = 7 by omega, show ¬ k = 8 by omega, show ¬ k = 9 by omega, if_false]]
    have h1 : ¬ k < 1 := by omega
    go_enter Tryz.func77, Tryz.ntmps77
    go_wp2_with fail
    go_ret
    exact ⟨rfl, Below.refl _ _⟩
open Go Go.RowKit
set_option maxRecDepth 100000
def levelF (k : Int) : Int := if 18 ≤ k ∧ k ≤ 23 then 0 else if k = 17 then 1 else if k = 15 ∨ k = 16 then 2 else if k = 13 ∨ k = 14 then 3 else if k = 12 then 4 else if k = 11 then 5 else if k = 9 ∨ k = 10 then 6 else if k = 24 then 7 else if k = 25 then 8 else 9
theorem level_call (k : Int) (w : World) : Calls Tryz.prog 122 #[.int .i64 k] w fun e w' => e = .returned (.int .i64 (levelF k)) ∧ w' = w := by
  have hk : k ≤ 8 ∨ k = 9 ∨ k = 10 ∨ k = 11 ∨ k = 12 ∨ k = 13 ∨ k = 14 ∨ k = 15 ∨ k = 16 ∨ k = 17 ∨ k = 18 ∨ k = 19 ∨ k = 20 ∨ k = 21 ∨ k = 22 ∨ k = 23 ∨ k = 24 ∨ k = 25 ∨ 26 ≤ k := by omega
  rcases hk with h | rfl | rfl | rfl | rfl | rfl | rfl | rfl | rfl | rfl | rfl | rfl | rfl | rfl | rfl | rfl | rfl | rfl | h
  · rw [show levelF k = 9 by unfold levelF; simp only [show ¬ (18 ≤ k ∧ k ≤ 23) by omega, show ¬ k = 17 by omega, show ¬ k = 15 by omega, show ¬ k = 16 by omega, show ¬ k = 13 by omega, show ¬ k = 14 by omega, show ¬ k = 12 by omega, show ¬ k = 11 by omega, show ¬ k = 9 by omega, show ¬ k = 10 by omega, show ¬ k = 24 by omega, show ¬ k = 25 by omega, if_false, false_or]]
    have a0 : ¬ (18 : Int) ≤ k := by omega
    have b17 : (k == (17 : Int)) = false := by rw [beq_eq_false_iff_ne]; omega
    have b15 : (k == (15 : Int)) = false := by rw [beq_eq_false_iff_ne]; omega
    have b16 : (k == (16 : Int)) = false := by rw [beq_eq_false_iff_ne]; omega
    have b13 : (k == (13 : Int)) = false := by rw [beq_eq_false_iff_ne]; omega
    have b14 : (k == (14 : Int)) = false := by rw [beq_eq_false_iff_ne]; omega
    have b12 : (k == (12 : Int)) = false := by rw [beq_eq_false_iff_ne]; omega
    have b11 : (k == (11 : Int)) = false := by rw [beq_eq_false_iff_ne]; omega
    have b9 : (k == (9 : Int)) = false := by rw [beq_eq_false_iff_ne]; omega
    have b10 : (k == (10 : Int)) = false := by rw [beq_eq_false_iff_ne]; omega
    have b24 : (k == (24 : Int)) = false := by rw [beq_eq_false_iff_ne]; omega
    have b25 : (k == (25 : Int)) = false := by rw [beq_eq_false_iff_ne]; omega
    go_enter Tryz.func122, Tryz.ntmps122
    go_wp2_with fail
    go_ret
    exact ⟨rfl, rfl⟩
  · go_enter Tryz.func122, Tryz.ntmps122
    go_wp2_with fail
    go_ret
    exact ⟨rfl, rfl⟩
  · go_enter Tryz.func122, Tryz.ntmps122
    go_wp2_with fail
    go_ret
    exact ⟨rfl, rfl⟩
  · go_enter Tryz.func122, Tryz.ntmps122
    go_wp2_with fail
    go_ret
    exact ⟨rfl, rfl⟩
  · go_enter Tryz.func122, Tryz.ntmps122
    go_wp2_with fail
    go_ret
    exact ⟨rfl, rfl⟩
  · go_enter Tryz.func122, Tryz.ntmps122
    go_wp2_with fail
    go_ret
    exact ⟨rfl, rfl⟩
  · go_enter Tryz.func122, Tryz.ntmps122
    go_wp2_with fail
    go_ret
    exact ⟨rfl, rfl⟩
  · go_enter Tryz.func122, Tryz.ntmps122
    go_wp2_with fail
    go_ret
    exact ⟨rfl, rfl⟩
  · go_enter Tryz.func122, Tryz.ntmps122
    go_wp2_with fail
    go_ret
    exact ⟨rfl, rfl⟩
  · go_enter Tryz.func122, Tryz.ntmps122
    go_wp2_with fail
    go_ret
    exact ⟨rfl, rfl⟩
  · go_enter Tryz.func122, Tryz.ntmps122
    go_wp2_with fail
    go_ret
    exact ⟨rfl, rfl⟩
  · go_enter Tryz.func122, Tryz.ntmps122
    go_wp2_with fail
    go_ret
    exact ⟨rfl, rfl⟩
  · go_enter Tryz.func122, Tryz.ntmps122
    go_wp2_with fail
    go_ret
    exact ⟨rfl, rfl⟩
  · go_enter Tryz.func122, Tryz.ntmps122
    go_wp2_with fail
    go_ret
    exact ⟨rfl, rfl⟩
  · go_enter Tryz.func122, Tryz.ntmps122
    go_wp2_with fail
    go_ret
    exact ⟨rfl, rfl⟩
  · go_enter Tryz.func122, Tryz.ntmps122
    go_wp2_with fail
    go_ret
    exact ⟨rfl, rfl⟩
  · go_enter Tryz.func122, Tryz.ntmps122
    go_wp2_with fail
    go_ret
    exact ⟨rfl, rfl⟩
  · go_enter Tryz.func122, Tryz.ntmps122
    go_wp2_with fail
    go_ret
    exact ⟨rfl, rfl⟩
  · rw [show levelF k = 9 by unfold levelF; simp only [show ¬ (18 ≤ k ∧ k ≤ 23) by omega, show ¬ k = 17 by omega, show ¬ k = 15 by omega, show ¬ k = 16 by omega, show ¬ k = 13 by omega, show ¬ k = 14 by omega, show ¬ k = 12 by omega, show ¬ k = 11 by omega, show ¬ k = 9 by omega, show ¬ k = 10 by omega, show ¬ k = 24 by omega, show ¬ k = 25 by omega, if_false, false_or]]
    have a0 : (18 : Int) ≤ k := by omega
    have a1 : ¬ k ≤ (23 : Int) := by omega
    have b17 : (k == (17 : Int)) = false := by rw [beq_eq_false_iff_ne]; omega
    have b15 : (k == (15 : Int)) = false := by rw [beq_eq_false_iff_ne]; omega
    have b16 : (k == (16 : Int)) = false := by rw [beq_eq_false_iff_ne]; omega
    have b13 : (k == (13 : Int)) = false := by rw [beq_eq_false_iff_ne]; omega
    have b14 : (k == (14 : Int)) = false := by rw [beq_eq_false_iff_ne]; omega
    have b12 : (k == (12 : Int)) = false := by rw [beq_eq_false_iff_ne]; omega
    have b11 : (k == (11 : Int)) = false := by rw [beq_eq_false_iff_ne]; omega
    have b9 : (k == (9 : Int)) = false := by rw [beq_eq_false_iff_ne]; omega
    have b10 : (k == (10 : Int)) = false := by rw [beq_eq_false_iff_ne]; omega
    have b24 : (k == (24 : Int)) = false := by rw [beq_eq_false_iff_ne]; omega
    have b25 : (k == (25 : Int)) = false := by rw [beq_eq_false_iff_ne]; omega
    go_enter Tryz.func122, Tryz.ntmps122
    go_wp2_with fail
    go_ret
    exact ⟨rfl, rfl⟩
open Go Go.RowKit
set_option maxRecDepth 100000
def upB (c : UInt8) : UInt8 := if 97 ≤ c.toNat ∧ c.toNat ≤ 122 then c - 32 else c
def upT (s : ByteArray) : ByteArray := ⟨(s.data.toList.map upB).toArray⟩
theorem upB_in {c : UInt8} (h1 : 97 ≤ c.toNat) (h2 : c.toNat ≤ 122) : ((upB c).toNat : Int) = (c.toNat : Int) + -32 := by
  unfold upB
  rw [if_pos ⟨h1, h2⟩, UInt8.toNat_sub_of_le _ _ (by rw [UInt8.le_iff_toNat_le]; exact Nat.le_trans (by decide) h1)]
  have : (32 : UInt8).toNat = 32 := rfl
  rw [this]
  omega
theorem upB_out {c : UInt8} (h : ¬ (97 ≤ c.toNat ∧ c.toNat ≤ 122)) : upB c = c := if_neg h
theorem bytesRow_mark (w : World) (s : ByteArray) (cap : Nat) (i : Nat) (h : i < s.size) :
    (w.drew.alloc (.cells (bytesRow s cap) 5 ((bytesRow s cap).size, (bytesRow s cap).size + 1))).cell? ⟨w.heap.size, i, none⟩ = some (.int .u8 ((s[i]'h).toNat : Int)) := by
  have e := World.cell?_alloc_mark w.drew (bytesRow s cap) 5 ((bytesRow s cap).size, (bytesRow s cap).size + 1) i
  have e2 : (bytesRow s cap)[i]? = some (.int .u8 ((s[i]'h).toNat : Int)) := by
    unfold bytesRow
    have hsz : i < (s.data.map (fun b => Value.int .u8 b.toNat)).size := by rw [Array.size_map]; exact h
    rw [Array.getElem?_append_left hsz, Array.getElem?_map]
    have : s.data[i]? = some (s[i]'h) := Array.getElem?_eq_getElem _
    rw [this]
    rfl
  exact e.trans e2
theorem bytesRow_free (w : World) (s : ByteArray) (cap : Nat) (i : Nat) (h : i < s.size) :
    (w.drew.alloc (.cells (bytesRow s cap) 5 ((bytesRow s cap).size, (bytesRow s cap).size + 1))).frozen? ⟨w.heap.size, i, none⟩ = false := by
  have e := World.frozen?_alloc_mark w.drew (bytesRow s cap) 5 (bytesRow s cap).size ((bytesRow s cap).size + 1) i
  refine e.trans ?_
  have hsz : s.size ≤ (bytesRow s cap).size := by
    unfold bytesRow
    rw [Array.size_append, Array.size_map]
    exact Nat.le_add_right _ _
  have : ¬ (bytesRow s cap).size ≤ i := by omega
  simp [this]
theorem frozen_setCell (w : World) (a b : Addr) (v : Value) : (w.setCell a v).frozen? b = w.frozen? b := by
  unfold World.frozen?
  by_cases h : b.block = a.block
  · simp only [World.setCell, Array.getElem?_modify]
    rw [if_pos h.symm]
    cases w.heap[b.block]? with
    | none => rfl
    | some o => cases o <;> rfl
  · rw [set_other _ _ _ h]
theorem turned_call (s : ByteArray) (hs : s.size ≤ 1048576) (w : World) : Calls Tryz.prog 112 #[.string s, .int .u8 97, .int .u8 122, .int .i64 (-32)] w fun e w' => e = .returned (.string (upT s)) ∧ Below w.heap.size w w' := by
  have hconv := run_bytes_of_string (P := Tryz.prog) w 9 98 5 s Tryz.underlying9 Tryz.underlying98 Tryz.underlying5
  have hcell := fun i h => bytesRow_mark w s (grownCap w s.size 0 5) i h
  have hfree := fun i h => bytesRow_free w s (grownCap w s.size 0 5) i h
  have hbel : Below w.heap.size w (w.drew.alloc (.cells (bytesRow s (grownCap w s.size 0 5)) 5 ((bytesRow s (grownCap w s.size 0 5)).size, (bytesRow s (grownCap w s.size 0 5)).size + 1))) := ((Below.refl _ _).drew).alloc (Nat.le_refl _) _
  have hlen : w.heap.size < (w.drew.alloc (.cells (bytesRow s (grownCap w s.size 0 5)) 5 ((bytesRow s (grownCap w s.size 0 5)).size, (bytesRow s (grownCap w s.size 0 5)).size + 1))).heap.size := by simp [World.alloc]
  generalize (w.drew.alloc (.cells (bytesRow s (grownCap w s.size 0 5)) 5 ((bytesRow s (grownCap w s.size 0 5)).size, (bytesRow s (grownCap w s.size 0 5)).size + 1))) = w1 at hconv hcell hfree hbel hlen
  generalize grownCap w s.size 0 5 = cap at hconv
  have Hcell := Lib.hid hcell
  have Hfree := Lib.hid hfree
  have Hbel := Lib.hid hbel
  clear hcell hfree hbel
  go_enter Tryz.func112, Tryz.ntmps112
  go_wp2_with fail
  go_loopw [16] (fun i wr => ∃ j : Nat, i = .int .i64 j ∧ j ≤ s.size ∧ (∀ i (h : i < s.size), wr.cell? ⟨w.heap.size, i, none⟩ = some (.int .u8 ((if i < j then upB (s[i]'h) else s[i]'h).toNat : Int))) ∧ (∀ i, i < s.size → wr.frozen? ⟨w.heap.size, i, none⟩ = false) ∧ Below w.heap.size w wr) (fun i _ => s.size - (intOf i).toNat)
  case atStart => exact ⟨0, rfl, Nat.zero_le _, fun i h => by rw [if_neg (Nat.not_lt_zero _)]; exact Hcell.out i h, Hfree.out, Hbel.out⟩
  case round =>
    obtain ⟨j, rfl, hj, hc, hf, hb⟩ := hrel
    rcases Nat.lt_or_ge j s.size with hlt | hge
    · have hjz : (j : Int) < (s.size : Int) := by omega
      have hj0 : (0 : Int) ≤ (j : Int) := by omega
      have hcj := hc j hlt
      rw [if_neg (Nat.lt_irrefl _)] at hcj
      have hfj := hf j hlt
      have Hc := Lib.hid hc
      have Hf := Lib.hid hf
      have Hb := Lib.hid hb
      clear hc hf hb
      obtain ⟨c, hcc⟩ : ∃ c, s[j]'hlt = c := ⟨_, rfl⟩
      rw [hcc] at hcj
      have Hcc := Lib.hid hcc
      clear hcc
      have h256 : (c.toNat : Int) < 256 := by have := c.toNat_lt; omega
      by_cases h1 : 97 ≤ c.toNat
      · have h1z : (97 : Int) ≤ (c.toNat : Int) := by omega
        by_cases h2 : c.toNat ≤ 122
        · have h2z : (c.toNat : Int) ≤ 122 := by omega
          go_wp2_with fail
          have hb2 : Below w.heap.size w (wr.setCell ⟨w.heap.size, j, none⟩ (.int .u8 ((c.toNat : Int) + -32))) := set_below Hb.out (Nat.le_refl _) _
          refine ⟨⟨j + 1, rfl, hlt, fun i h => ?_, fun i h => ?_, hb2⟩, by simp only [intOf]; omega⟩
          · by_cases hij2 : i = j
            · subst hij2
              rw [if_pos (Nat.lt_succ_self _), Hcc.out, upB_in h1 h2]
              exact World.cell?_setCell_same _ _ _ hcj
            · rw [World.cell?_setCell_other _ _ _ _ (by simp [hij2]), Hc.out i h]
              by_cases hij : i < j
              · rw [if_pos hij, if_pos (by omega)]
              · rw [if_neg hij, if_neg (by omega)]
          · rw [frozen_setCell]
            exact Hf.out i h
        · have h2z : ¬ (c.toNat : Int) ≤ 122 := by omega
          go_wp2_with fail
          refine ⟨⟨j + 1, rfl, hlt, fun i h => ?_, Hf.out, Hb.out⟩, by simp only [intOf]; omega⟩
          rw [Hc.out i h]
          by_cases hij : i < j
          · rw [if_pos hij, if_pos (by omega)]
          · by_cases hij2 : i = j
            · subst hij2
              rw [if_neg hij, if_pos (Nat.lt_succ_self _), Hcc.out, upB_out (by omega)]
            · rw [if_neg hij, if_neg (by omega)]
      · have h1z : ¬ (97 : Int) ≤ (c.toNat : Int) := by omega
        go_wp2_with fail
        refine ⟨⟨j + 1, rfl, hlt, fun i h => ?_, Hf.out, Hb.out⟩, by simp only [intOf]; omega⟩
        rw [Hc.out i h]
        by_cases hij : i < j
        · rw [if_pos hij, if_pos (by omega)]
        · by_cases hij2 : i = j
          · subst hij2
            rw [if_neg hij, if_pos (Nat.lt_succ_self _), Hcc.out, upB_out (by omega)]
          · rw [if_neg hij, if_neg (by omega)]
    · obtain rfl : j = s.size := by omega
      have hjz : ¬ (s.size : Int) < (s.size : Int) := by omega
      have hback := run_convert_bytes_back (P := Tryz.prog) wr 98 9 5 ⟨w.heap.size, 0, none⟩ cap (s.data.toList.map upB) Tryz.underlying98 Tryz.underlying5 Tryz.underlying9 (fun i hi => by
        have h : i < s.size := by simpa using hi
        have e := hc i h
        rw [if_pos h] at e
        have ea : (⟨w.heap.size, 0, none⟩ : Addr).add i = ⟨w.heap.size, i, none⟩ := by exact (Addr.add_mid _ _ _).trans (by rw [Nat.zero_add])
        rw [ea, e, List.getElem_map]
        rfl)
      have hll : (s.data.toList.map upB).length = s.size := by simp
      rw [hll] at hback
      have Hc := Lib.hid hc
      have Hf := Lib.hid hf
      have Hb := Lib.hid hb
      clear hc hf hb
      go_wp2_with fail
      go_ret
      exact ⟨rfl, Hb.out⟩
theorem upper_call (s : ByteArray) (hs : s.size ≤ 1048576) (w : World) : Calls Tryz.prog 64 #[.string s] w fun e w' => e = .returned (.string (upT s)) ∧ Below w.heap.size w w' := by
  have c := turned_call s hs w
  go_enter Tryz.func64, Tryz.ntmps64
  go_wp2_with (go_at_call 112; refine c.mono ?_; rintro e w' ⟨rfl, hb⟩)
  go_ret
  exact ⟨rfl, hb⟩
end Go.Proofs.YtkeibmkcgnppeaaGreatDoor

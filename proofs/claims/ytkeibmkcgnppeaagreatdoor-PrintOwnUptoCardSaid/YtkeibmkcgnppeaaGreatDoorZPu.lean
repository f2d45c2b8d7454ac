/- A text between quotes; a reference s text. -/
import Derived.Test.YtkeibmkcgnppeaaGreatDoorZPn
import Derived.Test.YtkeibmkcgnppeaaGreatDoorZHa
import Derived.Laws.Cover4
import Derived.Lib.ItoaLen
set_option maxHeartbeats 32000000
set_option linter.unusedSimpArgs false
set_option linter.unusedVariables false
namespace Go.Proofs.YtkeibmkcgnppeaaGreatDoor
open Go Go.RowKit
set_option maxRecDepth 100000
theorem num_later {W w : World} {H L : Nat → Nat} (h : NumW W H L) (hw : Ck.Later W w) : NumW w H L := h.later (show Later W w from hw)
theorem quote_call {W : World} {H L : Nat → Nat} (hg : Ck.Consts W) (hT : Ck.Tabs W) (hn : NumW W H L) (s : ByteArray) (hs : s.size ≤ 1048576) : ∃ (t : ByteArray) (k : Int), t.size ≤ 4194304 ∧ ∀ w, Ck.Later W w → Calls Tryz.prog 76 #[.string s] w fun e w' => e = .returned (.tuple #[.string t, .int .i64 k]) ∧ Below w.heap.size w w' := by
  have HcV : Hid (∀ w, Ck.Later W w → _) := Lib.hid (fun w hw => chars_valid hg hT s (by omega) w hw)
  have Hn := Lib.hid hn
  clear hg hT hn
  generalize validT s = v at HcV
  cases v
  · refine ⟨⟨#[]⟩, 122, by decide, fun w hw => ?_⟩
    have Hw := Lib.hid hw
    clear hw
    go_enter Tryz.func76, Tryz.ntmps76
    go_wp2_with (go_at_call 101; refine (HcV.out _ Hw.out).mono ?_; rintro e W1 ⟨⟨i, rfl⟩, hb1⟩)
    go_ret2
    exact ⟨rfl, hb1⟩
  · by_cases hz : 32768 < s.size
    · refine ⟨⟨#[]⟩, 3, by decide, fun w hw => ?_⟩
      have Hw := Lib.hid hw
      have hz1 : (32768 : Int) < (s.size : Int) := by omega
      clear hw
      go_enter Tryz.func76, Tryz.ntmps76
      go_wp2_with (go_at_call 101; refine (HcV.out _ Hw.out).mono ?_; rintro e W1 ⟨⟨i, rfl⟩, hb1⟩)
      go_ret2
      exact ⟨rfl, hb1⟩
    · have hz1 : ¬ (32768 : Int) < (s.size : Int) := by omega
      have hc : Lib.countB s ⟨#[34]⟩ ≤ s.size := count_quote_le s.data.toList
      have h2 : (⟨#[34, 34]⟩ : ByteArray).size = 2 := rfl
      obtain ⟨u, hu, cR⟩ : ∃ u : ByteArray, u.size ≤ 1000000 ∧ ∀ w, Ck.Later W w → Calls Tryz.prog 32 #[.string s, .string ⟨#[34]⟩, .string ⟨#[34, 34]⟩] w fun e w' => e = .returned (.string u) ∧ Below w.heap.size w w' := by
        refine ⟨⟨(Lib.replaceAll s.data.toList [34] [34, 34]).toArray⟩, ?_, fun w hw => ?_⟩
        · show (Lib.replaceAll s.data.toList [34] [34, 34]).toArray.size ≤ _
          rw [replaceAll_quote]
          have := quoteB_len s.data.toList
          have e : s.data.toList.length = s.size := by simp
          rw [List.size_toArray]
          omega
        · obtain ⟨m, hm⟩ := (num_later Hn.out hw).most
          exact Tryz.strings_ReplaceAll s ⟨#[34]⟩ ⟨#[34, 34]⟩ m w (by omega) hm (Nat.le_refl _) (by rw [h2]; omega)
      have HcR := Lib.hid cR
      clear cR hc h2
      have hul : u.toList.length ≤ 1000000 := by rw [ByteArray.toList_eq]; exact hu
      refine ⟨(⟨#[34]⟩ ++ u) ++ ⟨#[34]⟩, 0, ?_, fun w hw => ?_⟩
      · rw [ByteArray.size_append, ByteArray.size_append]
        show 1 + u.size + 1 ≤ _
        omega
      · have Hw := Lib.hid hw
        clear hw
        go_enter Tryz.func76, Tryz.ntmps76
        go_wp2_with (first
          | (go_at_call 101; refine (HcV.out _ Hw.out).mono ?_; rintro e W1 ⟨⟨i, rfl⟩, hb1⟩)
          | (go_at_call 32; refine (HcR.out _ (later_below Hw.out hb1)).mono ?_; rintro e W2 ⟨rfl, hb2⟩))
        go_ret2
        exact ⟨rfl, hb1.trans (hb2.mono hb1.size)⟩
theorem dollar_call (b : Bool) (w : World) : Calls Tryz.prog 132 #[.bool b] w fun e w' => e = .returned (.string (if b then ⟨#[36]⟩ else ⟨#[]⟩)) ∧ w' = w := by
  cases b
  all_goals (
    go_enter Tryz.func132, Tryz.ntmps132
    go_wp2_with fail
    go_ret
    exact ⟨rfl, rfl⟩)
def colF : Nat → Int → ByteArray → ByteArray
  | 0, _, acc => acc
  | g + 1, n, acc => if 0 < n then colF g ((n - 1) / 26) (Utf8.encode (65 + (n - 1) % 26) ++ acc) else acc
theorem colF_size : ∀ (g : Nat) (n : Int) (acc : ByteArray), (colF g n acc).size ≤ acc.size + 4 * g
  | 0, _, _ => by simp [colF]
  | g + 1, n, acc => by
    unfold colF
    split
    · have := colF_size g ((n - 1) / 26) (Utf8.encode (65 + (n - 1) % 26) ++ acc)
      have h4 := encode_size_le (65 + (n - 1) % 26)
      rw [ByteArray.size_append] at this
      omega
    · omega
theorem column_call (c : Int) : ∃ (t : ByteArray) (k : Int), t.size ≤ 100000 ∧ ∀ w, Calls Tryz.prog 171 #[.int .i64 c] w fun e w' => e = .returned (.tuple #[.string t, .int .i64 k]) ∧ w' = w := by
  by_cases h0 : c < 0
  · refine ⟨⟨#[]⟩, 110, by decide, fun w => ?_⟩
    go_enter Tryz.func171, Tryz.ntmps171
    go_wp2_with fail
    go_ret2
    exact ⟨rfl, rfl⟩
  · by_cases h1 : 1024 ≤ c
    · refine ⟨⟨#[]⟩, 110, by decide, fun w => ?_⟩
      go_enter Tryz.func171, Tryz.ntmps171
      go_wp2_with fail
      go_ret2
      exact ⟨rfl, rfl⟩
    · have h2 : 0 ≤ c := by omega
      refine ⟨colF 1025 (c + 1) ⟨#[]⟩, 0, ?_, fun w => ?_⟩
      · have := colF_size 1025 (c + 1) ⟨#[]⟩
        have e : (⟨#[]⟩ : ByteArray).size = 0 := rfl
        omega
      · go_enter Tryz.func171, Tryz.ntmps171
        go_wp2_with fail
        go_loopg [0, 4] 1025 (fun gk i a wr => ∃ (n : Int) (acc : ByteArray), i = .int .i64 n ∧ a = .string acc ∧ n ≤ 1024 ∧ n.toNat < gk ∧ acc.size + 4 * n.toNat ≤ 8192 ∧ colF gk n acc = colF 1025 (c + 1) ⟨#[]⟩ ∧ wr = w)
        case atStart => exact ⟨c + 1, ⟨#[]⟩, rfl, rfl, by omega, by omega, by show 0 + _ ≤ _; omega, rfl, rfl⟩
        case round =>
          obtain ⟨n, acc, rfl, rfl, hn, hgk, hsz, hval, rfl⟩ := hrel
          by_cases hp : 0 < n
          · obtain ⟨g', rfl⟩ : ∃ g', gk = g' + 1 := ⟨gk - 1, by omega⟩
            have h4 := encode_size_le (65 + (n - 1) % 26)
            have hacc : acc.toList.length ≤ 8192 := by rw [ByteArray.toList_eq]; show acc.size ≤ _; omega
            have Hval := Lib.hid hval
            clear hval
            have hcat : ¬ 9223372036854775807 < (Utf8.encode (65 + (n - 1) % 26)).size + acc.size := by omega
            go_wp2_with fail
            go_roundg g'
            case measure => omega
            case rel =>
              refine ⟨(n - 1) / 26, Utf8.encode (65 + (n - 1) % 26) ++ acc, rfl, rfl, by omega, by omega, ?_, ?_, rfl⟩
              · rw [ByteArray.size_append]
                omega
              · rw [← Hval.out]
                exact (if_pos hp).symm
          · have hv : colF 1025 (c + 1) ⟨#[]⟩ = acc := by
              rw [← hval]
              cases gk with
              | zero => rfl
              | succ g => exact if_neg hp
            have Hv := Lib.hid hv
            clear hval hv
            go_wp2_with fail
            go_ret2
            exact ⟨by rw [Hv.out]; rfl, rfl⟩
def plainB (s : ByteArray) : Bool := decide (s.size ≠ 0) && decide (∀ i, (h : i < s.size) → letterB ((s[i]'h).toNat : Int) = true ∨ (i ≠ 0 ∧ digitB ((s[i]'h).toNat : Int) = true))
theorem plain_call (s : ByteArray) (hs : s.size ≤ 1048576) (w : World) : Calls Tryz.prog 170 #[.string s] w fun e w' => e = .returned (.bool (plainB s)) ∧ w' = w := by
  have hss := empty_iff s
  go_enter Tryz.func170, Tryz.ntmps170
  go_wp2_with fail
  go_loop [8] (fun i => ∃ j : Nat, i = .int .i64 j ∧ j ≤ s.size ∧ (∀ i (h : i < s.size), i < j → letterB ((s[i]'h).toNat : Int) = true ∨ (i ≠ 0 ∧ digitB ((s[i]'h).toNat : Int) = true))) (fun i => s.size - (intOf i).toNat)
  case atStart => exact ⟨0, rfl, Nat.zero_le _, fun i h hi => absurd hi (Nat.not_lt_zero _)⟩
  case round =>
    obtain ⟨j, rfl, hj, hall⟩ := hrel
    rcases Nat.lt_or_ge j s.size with hlt | hge
    · have hjz : (j : Int) < (s.size : Int) := by omega
      have hj0 : (0 : Int) ≤ (j : Int) := by omega
      have hne : s.toList.isEmpty = false := by rw [hss]; exact decide_eq_false (by omega)
      have Hall := Lib.hid hall
      have Hlt := Lib.hid hlt
      have hfalse : ¬ (letterB ((s[j]'hlt).toNat : Int) = true ∨ (j ≠ 0 ∧ digitB ((s[j]'hlt).toNat : Int) = true)) → plainB s = false := fun h => by
        unfold plainB
        rw [Bool.and_eq_false_iff]
        exact .inr (decide_eq_false fun hh => h (hh j hlt))
      have hnext : (letterB ((s[j]'hlt).toNat : Int) = true ∨ (j ≠ 0 ∧ digitB ((s[j]'hlt).toNat : Int) = true)) → ∀ i (h : i < s.size), i < j + 1 → letterB ((s[i]'h).toNat : Int) = true ∨ (i ≠ 0 ∧ digitB ((s[i]'h).toNat : Int) = true) := fun hx i h hi => by
        rcases Nat.lt_or_ge i j with h5 | h5
        · exact Hall.out i h h5
        · obtain rfl : i = j := by omega
          exact hx
      have Hfalse := Lib.hid hfalse
      have Hnext := Lib.hid hnext
      clear hall hfalse hnext hss
      have hx0 : (0 : Int) ≤ ((s[j]'hlt).toNat : Int) := by omega
      rcases (show (((s[j]'hlt).toNat : Int) ≤ 47) ∨ (48 ≤ ((s[j]'hlt).toNat : Int) ∧ ((s[j]'hlt).toNat : Int) ≤ 57) ∨ (58 ≤ ((s[j]'hlt).toNat : Int) ∧ ((s[j]'hlt).toNat : Int) ≤ 64) ∨ (65 ≤ ((s[j]'hlt).toNat : Int) ∧ ((s[j]'hlt).toNat : Int) ≤ 90) ∨ (91 ≤ ((s[j]'hlt).toNat : Int) ∧ ((s[j]'hlt).toNat : Int) ≤ 94) ∨ (95 ≤ ((s[j]'hlt).toNat : Int) ∧ ((s[j]'hlt).toNat : Int) ≤ 95) ∨ (96 ≤ ((s[j]'hlt).toNat : Int) ∧ ((s[j]'hlt).toNat : Int) ≤ 96) ∨ (97 ≤ ((s[j]'hlt).toNat : Int) ∧ ((s[j]'hlt).toNat : Int) ≤ 122) ∨ (123 ≤ ((s[j]'hlt).toNat : Int)) by omega) with h | h | h | h | h | h | h | h | h
      · have g0 : ¬ (65 : Int) ≤ ((s[j]'hlt).toNat : Int) := by omega
        have g1 : ((s[j]'hlt).toNat : Int) ≤ (90 : Int) := by omega
        have g2 : ¬ (97 : Int) ≤ ((s[j]'hlt).toNat : Int) := by omega
        have g3 : ((s[j]'hlt).toNat : Int) ≤ (122 : Int) := by omega
        have g4 : (((s[j]'hlt).toNat : Int) == (95 : Int)) = false := by rw [beq_eq_false_iff_ne]; omega
        have g5 : ((s[j]'hlt).toNat : Int) < (48 : Int) := by omega
        have g6 : ¬ (57 : Int) < ((s[j]'hlt).toNat : Int) := by omega
        by_cases hj00 : j = 0
        · subst hj00
          go_wp2_with fail
          go_ret
          refine ⟨?_, rfl⟩
          rw [Hfalse.out (fun hh => by
            rcases hh with hh | ⟨h5, hh⟩
            · have := (letterB_iff _).1 hh; omega
            · have := (digitB_iff _).1 hh; omega)]
          rfl
        · have hj1 : ((j : Int) == 0) = false := by rw [beq_eq_false_iff_ne]; omega
          go_wp2_with fail
          go_ret
          refine ⟨?_, rfl⟩
          rw [Hfalse.out (fun hh => by
            rcases hh with hh | ⟨h5, hh⟩
            · have := (letterB_iff _).1 hh; omega
            · have := (digitB_iff _).1 hh; omega)]
          rfl
      · have g0 : ¬ (65 : Int) ≤ ((s[j]'hlt).toNat : Int) := by omega
        have g1 : ((s[j]'hlt).toNat : Int) ≤ (90 : Int) := by omega
        have g2 : ¬ (97 : Int) ≤ ((s[j]'hlt).toNat : Int) := by omega
        have g3 : ((s[j]'hlt).toNat : Int) ≤ (122 : Int) := by omega
        have g4 : (((s[j]'hlt).toNat : Int) == (95 : Int)) = false := by rw [beq_eq_false_iff_ne]; omega
        have g5 : ¬ ((s[j]'hlt).toNat : Int) < (48 : Int) := by omega
        have g6 : ¬ (57 : Int) < ((s[j]'hlt).toNat : Int) := by omega
        by_cases hj00 : j = 0
        · subst hj00
          go_wp2_with fail
          go_ret
          refine ⟨?_, rfl⟩
          rw [Hfalse.out (fun hh => by
            rcases hh with hh | ⟨h5, hh⟩
            · have := (letterB_iff _).1 hh; omega
            · exact h5 rfl)]
          rfl
        · have hj1 : ((j : Int) == 0) = false := by rw [beq_eq_false_iff_ne]; omega
          go_wp2_with fail
          refine ⟨⟨j + 1, rfl, by omega, Hnext.out (.inr ⟨hj00, (digitB_iff _).2 (by omega)⟩)⟩, by simp only [intOf]; omega⟩
      · have g0 : ¬ (65 : Int) ≤ ((s[j]'hlt).toNat : Int) := by omega
        have g1 : ((s[j]'hlt).toNat : Int) ≤ (90 : Int) := by omega
        have g2 : ¬ (97 : Int) ≤ ((s[j]'hlt).toNat : Int) := by omega
        have g3 : ((s[j]'hlt).toNat : Int) ≤ (122 : Int) := by omega
        have g4 : (((s[j]'hlt).toNat : Int) == (95 : Int)) = false := by rw [beq_eq_false_iff_ne]; omega
        have g5 : ¬ ((s[j]'hlt).toNat : Int) < (48 : Int) := by omega
        have g6 : (57 : Int) < ((s[j]'hlt).toNat : Int) := by omega
        by_cases hj00 : j = 0
        · subst hj00
          go_wp2_with fail
          go_ret
          refine ⟨?_, rfl⟩
          rw [Hfalse.out (fun hh => by
            rcases hh with hh | ⟨h5, hh⟩
            · have := (letterB_iff _).1 hh; omega
            · have := (digitB_iff _).1 hh; omega)]
          rfl
        · have hj1 : ((j : Int) == 0) = false := by rw [beq_eq_false_iff_ne]; omega
          go_wp2_with fail
          go_ret
          refine ⟨?_, rfl⟩
          rw [Hfalse.out (fun hh => by
            rcases hh with hh | ⟨h5, hh⟩
            · have := (letterB_iff _).1 hh; omega
            · have := (digitB_iff _).1 hh; omega)]
          rfl
      · have g0 : (65 : Int) ≤ ((s[j]'hlt).toNat : Int) := by omega
        have g1 : ((s[j]'hlt).toNat : Int) ≤ (90 : Int) := by omega
        have g2 : ¬ (97 : Int) ≤ ((s[j]'hlt).toNat : Int) := by omega
        have g3 : ((s[j]'hlt).toNat : Int) ≤ (122 : Int) := by omega
        have g4 : (((s[j]'hlt).toNat : Int) == (95 : Int)) = false := by rw [beq_eq_false_iff_ne]; omega
        have g5 : ¬ ((s[j]'hlt).toNat : Int) < (48 : Int) := by omega
        have g6 : (57 : Int) < ((s[j]'hlt).toNat : Int) := by omega
        go_wp2_with fail
        refine ⟨⟨j + 1, rfl, by omega, Hnext.out (.inl ((letterB_iff _).2 (by omega)))⟩, by simp only [intOf]; omega⟩
      · have g0 : (65 : Int) ≤ ((s[j]'hlt).toNat : Int) := by omega
        have g1 : ¬ ((s[j]'hlt).toNat : Int) ≤ (90 : Int) := by omega
        have g2 : ¬ (97 : Int) ≤ ((s[j]'hlt).toNat : Int) := by omega
        have g3 : ((s[j]'hlt).toNat : Int) ≤ (122 : Int) := by omega
        have g4 : (((s[j]'hlt).toNat : Int) == (95 : Int)) = false := by rw [beq_eq_false_iff_ne]; omega
        have g5 : ¬ ((s[j]'hlt).toNat : Int) < (48 : Int) := by omega
        have g6 : (57 : Int) < ((s[j]'hlt).toNat : Int) := by omega
        by_cases hj00 : j = 0
        · subst hj00
          go_wp2_with fail
          go_ret
          refine ⟨?_, rfl⟩
          rw [Hfalse.out (fun hh => by
            rcases hh with hh | ⟨h5, hh⟩
            · have := (letterB_iff _).1 hh; omega
            · have := (digitB_iff _).1 hh; omega)]
          rfl
        · have hj1 : ((j : Int) == 0) = false := by rw [beq_eq_false_iff_ne]; omega
          go_wp2_with fail
          go_ret
          refine ⟨?_, rfl⟩
          rw [Hfalse.out (fun hh => by
            rcases hh with hh | ⟨h5, hh⟩
            · have := (letterB_iff _).1 hh; omega
            · have := (digitB_iff _).1 hh; omega)]
          rfl
      · have g0 : (65 : Int) ≤ ((s[j]'hlt).toNat : Int) := by omega
        have g1 : ¬ ((s[j]'hlt).toNat : Int) ≤ (90 : Int) := by omega
        have g2 : ¬ (97 : Int) ≤ ((s[j]'hlt).toNat : Int) := by omega
        have g3 : ((s[j]'hlt).toNat : Int) ≤ (122 : Int) := by omega
        have g4 : (((s[j]'hlt).toNat : Int) == (95 : Int)) = true := by rw [beq_iff_eq]; omega
        have g5 : ¬ ((s[j]'hlt).toNat : Int) < (48 : Int) := by omega
        have g6 : (57 : Int) < ((s[j]'hlt).toNat : Int) := by omega
        go_wp2_with fail
        refine ⟨⟨j + 1, rfl, by omega, Hnext.out (.inl ((letterB_iff _).2 (by omega)))⟩, by simp only [intOf]; omega⟩
      · have g0 : (65 : Int) ≤ ((s[j]'hlt).toNat : Int) := by omega
        have g1 : ¬ ((s[j]'hlt).toNat : Int) ≤ (90 : Int) := by omega
        have g2 : ¬ (97 : Int) ≤ ((s[j]'hlt).toNat : Int) := by omega
        have g3 : ((s[j]'hlt).toNat : Int) ≤ (122 : Int) := by omega
        have g4 : (((s[j]'hlt).toNat : Int) == (95 : Int)) = false := by rw [beq_eq_false_iff_ne]; omega
        have g5 : ¬ ((s[j]'hlt).toNat : Int) < (48 : Int) := by omega
        have g6 : (57 : Int) < ((s[j]'hlt).toNat : Int) := by omega
        by_cases hj00 : j = 0
        · subst hj00
          go_wp2_with fail
          go_ret
          refine ⟨?_, rfl⟩
          rw [Hfalse.out (fun hh => by
            rcases hh with hh | ⟨h5, hh⟩
            · have := (letterB_iff _).1 hh; omega
            · have := (digitB_iff _).1 hh; omega)]
          rfl
        · have hj1 : ((j : Int) == 0) = false := by rw [beq_eq_false_iff_ne]; omega
          go_wp2_with fail
          go_ret
          refine ⟨?_, rfl⟩
          rw [Hfalse.out (fun hh => by
            rcases hh with hh | ⟨h5, hh⟩
            · have := (letterB_iff _).1 hh; omega
            · have := (digitB_iff _).1 hh; omega)]
          rfl
      · have g0 : (65 : Int) ≤ ((s[j]'hlt).toNat : Int) := by omega
        have g1 : ¬ ((s[j]'hlt).toNat : Int) ≤ (90 : Int) := by omega
        have g2 : (97 : Int) ≤ ((s[j]'hlt).toNat : Int) := by omega
        have g3 : ((s[j]'hlt).toNat : Int) ≤ (122 : Int) := by omega
        have g4 : (((s[j]'hlt).toNat : Int) == (95 : Int)) = false := by rw [beq_eq_false_iff_ne]; omega
        have g5 : ¬ ((s[j]'hlt).toNat : Int) < (48 : Int) := by omega
        have g6 : (57 : Int) < ((s[j]'hlt).toNat : Int) := by omega
        go_wp2_with fail
        refine ⟨⟨j + 1, rfl, by omega, Hnext.out (.inl ((letterB_iff _).2 (by omega)))⟩, by simp only [intOf]; omega⟩
      · have g0 : (65 : Int) ≤ ((s[j]'hlt).toNat : Int) := by omega
        have g1 : ¬ ((s[j]'hlt).toNat : Int) ≤ (90 : Int) := by omega
        have g2 : (97 : Int) ≤ ((s[j]'hlt).toNat : Int) := by omega
        have g3 : ¬ ((s[j]'hlt).toNat : Int) ≤ (122 : Int) := by omega
        have g4 : (((s[j]'hlt).toNat : Int) == (95 : Int)) = false := by rw [beq_eq_false_iff_ne]; omega
        have g5 : ¬ ((s[j]'hlt).toNat : Int) < (48 : Int) := by omega
        have g6 : (57 : Int) < ((s[j]'hlt).toNat : Int) := by omega
        by_cases hj00 : j = 0
        · subst hj00
          go_wp2_with fail
          go_ret
          refine ⟨?_, rfl⟩
          rw [Hfalse.out (fun hh => by
            rcases hh with hh | ⟨h5, hh⟩
            · have := (letterB_iff _).1 hh; omega
            · have := (digitB_iff _).1 hh; omega)]
          rfl
        · have hj1 : ((j : Int) == 0) = false := by rw [beq_eq_false_iff_ne]; omega
          go_wp2_with fail
          go_ret
          refine ⟨?_, rfl⟩
          rw [Hfalse.out (fun hh => by
            rcases hh with hh | ⟨h5, hh⟩
            · have := (letterB_iff _).1 hh; omega
            · have := (digitB_iff _).1 hh; omega)]
          rfl
    · obtain rfl : j = s.size := by omega
      have hjz : ¬ (s.size : Int) < (s.size : Int) := by omega
      have hv : plainB s = decide (s.size ≠ 0) := by
        unfold plainB
        rw [decide_eq_true (p := ∀ i, (h : i < s.size) → letterB ((s[i]'h).toNat : Int) = true ∨ (i ≠ 0 ∧ digitB ((s[i]'h).toNat : Int) = true)) (fun i h => hall i h h), Bool.and_true]
      have Hv := Lib.hid hv
      have hss2 : s.toList.isEmpty = decide (s.size = 0) := hss
      clear hall hv hss
      by_cases h0 : s.size = 0
      · rw [decide_eq_true h0] at hss2
        go_wp2_with fail
        go_ret
        exact ⟨by rw [Hv.out]; simp [h0], rfl⟩
      · rw [decide_eq_false h0] at hss2
        go_wp2_with fail
        go_ret
        exact ⟨by rw [Hv.out]; simp [h0], rfl⟩
theorem wrap_range (n : Int) : -9223372036854775808 ≤ IntKind.i64.wrap n ∧ IntKind.i64.wrap n ≤ 9223372036854775807 := by
  unfold IntKind.wrap
  simp [IntKind.bits, IntKind.signed]
  omega
theorem corner_text {W : World} {H L : Nat → Nat} (hn : NumW W H L) (r c : Int) (b1 b2 : Bool) : ∃ t : ByteArray, t.size ≤ 200000 ∧ ∀ w, Ck.Later W w → Calls Tryz.prog 133 #[.agg #[.int .i64 r, .int .i64 c, .bool b1, .bool b2]] w fun e w' => e = .returned (.string t) ∧ Below w.heap.size w w' := by
  obtain ⟨tc, kc, hts, cC⟩ := column_call c
  have hit : (Lib.itoa (IntKind.i64.wrap (r + 1))).length ≤ 100 := Nat.le_trans (Lib.itoa_length_le _ (wrap_range _).1 (wrap_range _).2) (by decide)
  have cI := fun w hw => by
    have h := Tryz.strconv_Itoa (IntKind.i64.wrap (r + 1)) (wrap_range _).1 (wrap_range _).2 w ((num_later hn hw).tabs.ten _ (Below.refl _ _))
    exact h
  have HcI : Hid (∀ w, Ck.Later W w → Calls Tryz.prog 45 #[.int .i64 (IntKind.i64.wrap (r + 1))] w fun e w' => e = .returned (.string ⟨(Lib.itoa (IntKind.i64.wrap (r + 1))).toArray⟩) ∧ Below w.heap.size w w') := Lib.hid fun w hw => (cI w hw).mono fun e w' h => ⟨h.1, by obtain ⟨k, os, h2⟩ := h.2; rw [h2]; exact Lib.below_grow _ _ (Nat.le_refl _) _ _⟩
  clear cI
  obtain ⟨ti, hti⟩ : ∃ ti : ByteArray, ⟨(Lib.itoa (IntKind.i64.wrap (r + 1))).toArray⟩ = ti := ⟨_, rfl⟩
  have hil : ti.size ≤ 100 := by rw [← hti]; show (Lib.itoa (IntKind.i64.wrap (r + 1))).toArray.size ≤ _; rw [List.size_toArray]; exact hit
  rw [hti] at HcI
  have hdl : ∀ b : Bool, ((if b then ⟨#[36]⟩ else ⟨#[]⟩ : ByteArray)).size ≤ 1 := by intro b; cases b <;> decide
  have cD1 := fun w => dollar_call b1 w
  have cD2 := fun w => dollar_call b2 w
  have h1 := hdl b1
  have h2 := hdl b2
  generalize ((if b1 then ⟨#[36]⟩ else ⟨#[]⟩ : ByteArray)) = d1 at cD1 h1
  generalize ((if b2 then ⟨#[36]⟩ else ⟨#[]⟩ : ByteArray)) = d2 at cD2 h2
  clear hdl hti hit hn
  have g1 : ¬ 9223372036854775807 < d2.size + tc.size := by omega
  have g2 : ¬ 9223372036854775807 < d2.size + tc.size + d1.size := by omega
  have g3 : ¬ 9223372036854775807 < d2.size + tc.size + d1.size + ti.size := by omega
  refine ⟨((d2 ++ tc) ++ d1) ++ ti, by rw [ByteArray.size_append, ByteArray.size_append, ByteArray.size_append]; omega, fun w hw => ?_⟩
  go_enter Tryz.func133, Tryz.ntmps133
  go_upto_region 2 with (go_at_call 171; refine (cC _).mono ?_; rintro e w' ⟨rfl, hw'⟩; rw [hw'])
  generalize hW2 : World.alloc w _ = W2
  have hbc : Below w.heap.size w W2 := by rw [← hW2]; exact (Below.refl _ _).alloc (Nat.le_refl _) _
  have hC : W2.heap[w.heap.size]? = some (.cells #[.int .i64 r, .int .i64 c, .bool b1, .bool b2] 24 (0, 0)) := by rw [← hW2]; exact heap_alloc_new _ _
  have y0 : W2.drew.cell? ⟨w.heap.size, 0, none⟩ = some (.int .i64 r) := by rw [drew_cell]; simp only [World.cell?, hC]; rfl
  have y2 : W2.drew.cell? ⟨w.heap.size, 2, none⟩ = some (.bool b1) := by rw [drew_cell]; simp only [World.cell?, hC]; rfl
  have y3 : W2.drew.cell? ⟨w.heap.size, 3, none⟩ = some (.bool b2) := by rw [drew_cell]; simp only [World.cell?, hC]; rfl
  have Hlc := Lib.hid (later_below hw hbc)
  have Hbc := Lib.hid hbc
  clear hW2 hC hw hbc
  refine wp_region_noPanic ?_
  refine wp_region_tail (S := fun w' => w'.cell? ⟨w.heap.size, 0, none⟩ = some (.int .i64 r) ∧ w'.cell? ⟨w.heap.size, 2, none⟩ = some (.bool b1) ∧ w'.cell? ⟨w.heap.size, 3, none⟩ = some (.bool b2)) (tail := (fun _ => false)) (by kernel_rfl) ⟨y0, y2, y3⟩ (fun hHeld => ?_)
  refine tk 0 ?_ rfl (Or.inl ⟨by rfl, ?_⟩) (by assumption) ?_
  rotate_left; · (intro w hSw; (try dsimp only at hSw); go_simp; try with_reducible rfl)
  (try simp only [Act.put, sA, s0, s1])
  refine tk 1 ?_ rfl (Or.inl ⟨by rfl, ?_⟩) (by assumption) ?_
  rotate_left; · (intro w hSw; (try dsimp only at hSw); go_simp; try with_reducible rfl)
  (try simp only [Act.put, sA, s0, s1])
  refine tk 3 ?_ rfl (Or.inl ⟨by rfl, ?_⟩) (by assumption) ?_
  rotate_left; · (intro w hSw; (try dsimp only at hSw); go_simp; try with_reducible rfl)
  (try simp only [Act.put, sA, s0, s1])
  refine tk 5 ?_ rfl (Or.inl ⟨by rfl, ?_⟩) (by assumption) ?_
  rotate_left; · (intro w hSw; (try dsimp only at hSw); go_simp; try with_reducible rfl)
  (try simp only [Act.put, sA, s0, s1])
  refine tk 6 ?_ rfl (Or.inl ⟨by rfl, ?_⟩) (by assumption) ?_
  rotate_left; · (intro w hSw; (try dsimp only at hSw); go_simp; try with_reducible rfl)
  (try simp only [Act.put, sA, s0, s1])
  refine tk 9 ?_ rfl (Or.inl ⟨by rfl, ?_⟩) (by assumption) ?_
  rotate_left; · (intro w hSw; (try dsimp only at hSw); go_simp; try with_reducible rfl)
  (try simp only [Act.put, sA, s0, s1])
  refine tk 10 ?_ rfl (Or.inl ⟨by rfl, ?_⟩) (by assumption) ?_
  rotate_left; · (intro w hSw; (try dsimp only at hSw); go_simp; try with_reducible rfl)
  (try simp only [Act.put, sA, s0, s1])
  refine tk 11 ?_ rfl (Or.inl ⟨by rfl, ?_⟩) (by assumption) ?_
  rotate_left; · (intro w hSw; (try dsimp only at hSw); go_simp; try with_reducible rfl)
  (try simp only [Act.put, sA, s0, s1])
  refine wpAnyT_step (i := 2) (by kernel_rfl) rfl (fun K hK => ?_)
  (go_simp; go_at_call 132; refine (cD2 _).mono ?_; rintro e w' ⟨rfl, rfl⟩; (try go_wp2_with fail))
  refine hK.out _ _ ?_ (fun hHeld => ?_)
  · first | exact hHeld | exact ⟨cell_keep hb9 y0, cell_keep hb9 y2, cell_keep hb9 y3⟩
  clear hK K
  (try simp only [Act.put, sA, s0, s1])
  refine tk 4 ?_ rfl (Or.inl ⟨by rfl, ?_⟩) (by assumption) ?_
  rotate_left; · (intro w hSw; (try dsimp only at hSw); go_simp; try with_reducible rfl)
  (try simp only [Act.put, sA, s0, s1])
  refine wpAnyT_step (i := 7) (by kernel_rfl) rfl (fun K hK => ?_)
  (go_simp; go_at_call 132; refine (cD1 _).mono ?_; rintro e w' ⟨rfl, rfl⟩; (try go_wp2_with fail))
  refine hK.out _ _ ?_ (fun hHeld => ?_)
  · first | exact hHeld | exact ⟨cell_keep hb9 y0, cell_keep hb9 y2, cell_keep hb9 y3⟩
  clear hK K
  (try simp only [Act.put, sA, s0, s1])
  refine tk 8 ?_ rfl (Or.inl ⟨by rfl, ?_⟩) (by assumption) ?_
  rotate_left; · (intro w hSw; (try dsimp only at hSw); go_simp; try with_reducible rfl)
  (try simp only [Act.put, sA, s0, s1])
  refine wpAnyT_step (i := 12) (by kernel_rfl) rfl (fun K hK => ?_)
  (go_simp; go_at_call 45; refine (HcI.out _ (show Ck.Later W W2.drew from Hlc.out)).mono ?_; rintro e w' ⟨rfl, hb9⟩; (try go_wp2_with fail))
  refine hK.out _ _ ?_ (fun hHeld => ?_)
  · first | exact hHeld | exact ⟨cell_keep hb9 y0, cell_keep hb9 y2, cell_keep hb9 y3⟩
  clear hK K
  (try simp only [Act.put, sA, s0, s1])
  refine wpAnyT_step (i := 13) (by kernel_rfl) rfl (fun K hK => ?_)
  go_simp
  refine hK.out _ _ ?_ (fun hHeld => ?_)
  · first | exact hHeld | exact ⟨cell_keep hb9 y0, cell_keep hb9 y2, cell_keep hb9 y3⟩
  clear hK K
  (try simp only [Act.put, sA, s0, s1])
  refine wpAnyT_step (i := 14) (by kernel_rfl) rfl (fun K hK => ?_)
  go_simp
  refine hK.out _ _ ?_ (fun hHeld => ?_)
  · first | exact hHeld | exact ⟨cell_keep hb9 y0, cell_keep hb9 y2, cell_keep hb9 y3⟩
  clear hK K
  (try simp only [Act.put, sA, s0, s1])
  refine wpAnyT_done (by kernel_rfl) ?_ _
  refine NoPanic.normal ?_
  all_goals (
    go_wp2_with fail
    go_ret
    exact ⟨rfl, Hbc.out.trans ((below_d hb9).mono Hbc.out.size)⟩)
theorem rquote_call {W : World} (hg : Ck.Consts W) (hT : Ck.Tabs W) (s : ByteArray) (hs : s.size ≤ 1048576) : ∃ (t : ByteArray) (k : Int), t.size ≤ 1048580 ∧ ∀ w, Ck.Later W w → Calls Tryz.prog 131 #[.string s] w fun e w' => e = .returned (.tuple #[.string t, .int .i64 k]) ∧ Below w.heap.size w w' := by
  obtain ⟨b, cS⟩ := sheet_call hg hT s hs
  have HcS := Lib.hid cS
  have cP := fun w => plain_call s hs w
  obtain ⟨pb, hpb⟩ : ∃ b, plainB s = b := ⟨_, rfl⟩
  rw [hpb] at cP
  have hsl : s.toList.length ≤ 1048576 := by rw [ByteArray.toList_eq]; exact hs
  have g1 : ¬ 9223372036854775807 < (⟨#[39]⟩ : ByteArray).size + s.size := by show ¬ _ < 1 + s.size; omega
  clear cS hg hT hpb
  cases b
  · refine ⟨⟨#[]⟩, 111, by decide, fun w hw => ?_⟩
    have Hw := Lib.hid hw
    clear hw
    go_enter Tryz.func131, Tryz.ntmps131
    go_wp2_with (go_at_call 60; refine (HcS.out _ Hw.out).mono ?_; rintro e w5 ⟨rfl, hb5⟩)
    go_ret2
    exact ⟨rfl, hb5⟩
  · cases pb
    · refine ⟨(⟨#[39]⟩ ++ s) ++ ⟨#[39]⟩, 0, ?_, fun w hw => ?_⟩
      · rw [ByteArray.size_append, ByteArray.size_append]
        show 1 + s.size + 1 ≤ _
        omega
      · have Hw := Lib.hid hw
        clear hw
        go_enter Tryz.func131, Tryz.ntmps131
        go_wp2_with (first
          | (go_at_call 60; refine (HcS.out _ Hw.out).mono ?_; rintro e w5 ⟨rfl, hb5⟩)
          | (go_at_call 170; refine (cP _).mono ?_; rintro e w6 ⟨rfl, hw6⟩; rw [hw6]; clear hw6))
        go_ret2
        exact ⟨rfl, hb5⟩
    · refine ⟨s, 0, by omega, fun w hw => ?_⟩
      have Hw := Lib.hid hw
      clear hw
      go_enter Tryz.func131, Tryz.ntmps131
      go_wp2_with (first
        | (go_at_call 60; refine (HcS.out _ Hw.out).mono ?_; rintro e w5 ⟨rfl, hb5⟩)
        | (go_at_call 170; refine (cP _).mono ?_; rintro e w6 ⟨rfl, hw6⟩; rw [hw6]; clear hw6))
      go_ret2
      exact ⟨rfl, hb5⟩
theorem ref_text {W : World} {H L : Nat → Nat} (hg : Ck.Consts W) (hT : Ck.Tabs W) (hn : NumW W H L) (s : Scal) (hok : s.OK) : ∃ (t : ByteArray) (k : Int), t.size ≤ 4194304 ∧ ∀ w, Ck.Later W w → Calls Tryz.prog 78 #[.agg s.ref.toArray] w fun e w' => e = .returned (.tuple #[.string t, .int .i64 k]) ∧ Below w.heap.size w w' := by
  obtain ⟨kk, cK⟩ := check_call hg hT s hok
  obtain ⟨tf, kf, hf, cF⟩ := rquote_call hg hT s.rs hok.rs
  obtain ⟨tt, kt, ht, cT⟩ := rquote_call hg hT s.rt hok.rt
  obtain ⟨ta, ha, cA⟩ := corner_text hn s.a0 s.a1 s.a2 s.a3
  obtain ⟨tb, hb, cB⟩ := corner_text hn s.b0 s.b1 s.b2 s.b3
  have HcK := Lib.hid cK
  have HcF := Lib.hid cF
  have HcT := Lib.hid cT
  have HcA := Lib.hid cA
  have HcB := Lib.hid cB
  clear cK cF cT cA cB hg hT hn hok
  by_cases hk : kk = 0
  rotate_left
  · refine ⟨⟨#[]⟩, kk, by decide, fun w hw => ?_⟩
    have Hw := Lib.hid hw
    have hkz : (kk == (0 : Int)) = false := by rw [beq_eq_false_iff_ne]; exact hk
    clear hw hk
    go_enter Tryz.func78, Tryz.ntmps78
    go_upto_region 1 with fail
    generalize hW1 : World.alloc w _ = W1
    have hbc : Below w.heap.size w W1 := by rw [← hW1]; exact (Below.refl _ _).alloc (Nat.le_refl _) _
    have hC : W1.heap[w.heap.size]? = some (.cells s.ref.toArray 26 (0, 0)) := by rw [← hW1]; exact heap_alloc_new _ _
    clear hW1
    have HC := Lib.hid hC
    have Hbc := Lib.hid hbc
    have Hl := Lib.hid (later_below Hw.out hbc)
    clear hC hbc
    go_wp2_with (first
      | (go_at_call 130; refine (HcK.out _ Hl.out).mono ?_; rintro e w5 ⟨rfl, hb5⟩)
      | (refine wpList_load_row rfl 26 _ rfl w.heap.size rfl 26 s.ref.toArray (0, 0) _ HC.out Tryz.underlying26 rfl size26 ?_))
    go_ret2
    exact ⟨rfl, Hbc.out.trans (hb5.mono Hbc.out.size)⟩
  subst hk
  have hdl : ((if s.rf then ⟨#[36]⟩ else ⟨#[]⟩ : ByteArray)).size ≤ 1 := by cases s.rf <;> decide
  have cD := fun w => dollar_call s.rf w
  generalize ((if s.rf then ⟨#[36]⟩ else ⟨#[]⟩ : ByteArray)) = d1 at cD hdl
  obtain ⟨pt, hpt⟩ : ∃ pt : ByteArray, pt = (⟨#[46]⟩ : ByteArray) := ⟨_, rfl⟩
  have e1 : (⟨#[46]⟩ : ByteArray).size = 1 := rfl
  have e2 : (⟨#[58]⟩ : ByteArray).size = 1 := rfl
  obtain ⟨ra, hra⟩ : ∃ r, s.ra = r := ⟨_, rfl⟩
  refine ⟨if ra then (((d1 ++ tf) ++ ⟨#[46]⟩) ++ ta) ++ (((⟨#[58]⟩ ++ tt) ++ ⟨#[46]⟩) ++ tb) else ((d1 ++ tf) ++ ⟨#[46]⟩) ++ ta, 0, ?_, fun w hw => ?_⟩
  · cases ra
    · show (((d1 ++ tf) ++ ⟨#[46]⟩) ++ ta).size ≤ _
      simp only [ByteArray.size_append, e1]
      omega
    · show ((((d1 ++ tf) ++ ⟨#[46]⟩) ++ ta) ++ (((⟨#[58]⟩ ++ tt) ++ ⟨#[46]⟩) ++ tb)).size ≤ _
      simp only [ByteArray.size_append, e1, e2]
      omega
  have Hw := Lib.hid hw
  clear hw hpt
  have g1 : ¬ 9223372036854775807 < d1.size + tf.size := by omega
  have g2 : ¬ 9223372036854775807 < d1.size + tf.size + 1 := by omega
  have g3 : ¬ 9223372036854775807 < d1.size + tf.size + 1 + ta.size := by omega
  have q1 : ¬ 9223372036854775807 < 1 + tt.size := by omega
  have q2 : ¬ 9223372036854775807 < 1 + tt.size + 1 := by omega
  have q3 : ¬ 9223372036854775807 < 1 + tt.size + 1 + tb.size := by omega
  have q4 : ¬ 9223372036854775807 < d1.size + tf.size + 1 + ta.size + (1 + tt.size + 1 + tb.size) := by omega
  clear e1 e2 hdl
  go_enter Tryz.func78, Tryz.ntmps78
  go_upto_region 1 with fail
  generalize hW1 : World.alloc w _ = W1
  have hbc : Below w.heap.size w W1 := by rw [← hW1]; exact (Below.refl _ _).alloc (Nat.le_refl _) _
  have hC : W1.heap[w.heap.size]? = some (.cells s.ref.toArray 26 (0, 0)) := by rw [← hW1]; exact heap_alloc_new _ _
  clear hW1
  obtain ⟨y0, y1, y2, y3, y4, y5, y6, y7, y8, y9, y10, y11⟩ := ref_all hC
  rw [hra] at y3
  have HC := Lib.hid hC
  have Hbc := Lib.hid hbc
  have Hl := Lib.hid (later_below Hw.out hbc)
  have Hra := Lib.hid hra
  clear hC hbc hra
  go_upto_region 5 with (first
    | (go_at_call 130; refine (HcK.out _ Hl.out).mono ?_; rintro e w5 ⟨rfl, hb5⟩; have kk := keep12 hb5 y0 y1 y2 y3 y4 y5 y6 y7 y8 y9 y10 y11; clear y0 y1 y2 y3 y4 y5 y6 y7 y8 y9 y10 y11; obtain ⟨y0, y1, y2, y3, y4, y5, y6, y7, y8, y9, y10, y11⟩ := kk)
    | (go_at_call 131; refine (HcF.out _ (later_below Hl.out hb5)).mono ?_; rintro e W2 ⟨rfl, hb6⟩; have kk := keep12 hb6 y0 y1 y2 y3 y4 y5 y6 y7 y8 y9 y10 y11; clear y0 y1 y2 y3 y4 y5 y6 y7 y8 y9 y10 y11; obtain ⟨y0, y1, y2, y3, y4, y5, y6, y7, y8, y9, y10, y11⟩ := kk)
    | (refine wpList_load_row rfl 26 _ rfl w.heap.size rfl 26 s.ref.toArray (0, 0) _ HC.out Tryz.underlying26 rfl size26 ?_))
  have Hl2 := Lib.hid (later_below (later_below Hl.out hb5) hb6)
  have Hb2 := Lib.hid (show Below w.heap.size w W2 from Hbc.out.trans ((hb5.trans (hb6.mono hb5.size)).mono Hbc.out.size))
  clear hb5 hb6
  have y0 : W2.drew.cell? _ = _ := y0
  have y1 : W2.drew.cell? _ = _ := y1
  have y2 : W2.drew.cell? _ = _ := y2
  have y3 : W2.drew.cell? _ = _ := y3
  have y4 : W2.drew.cell? _ = _ := y4
  have y5 : W2.drew.cell? _ = _ := y5
  have y6 : W2.drew.cell? _ = _ := y6
  have y7 : W2.drew.cell? _ = _ := y7
  have y8 : W2.drew.cell? _ = _ := y8
  have y9 : W2.drew.cell? _ = _ := y9
  have y10 : W2.drew.cell? _ = _ := y10
  have y11 : W2.drew.cell? _ = _ := y11
  refine wp_region_noPanic ?_
  refine wp_region_tail (S := fun w' => w'.cell? ⟨w.heap.size, 2, none⟩ = some (.bool s.rf) ∧ w'.rangeAt (w.heap.size) 4 [.int .i64 s.a0, .int .i64 s.a1, .bool s.a2, .bool s.a3]) (tail := (fun _ => false)) (by kernel_rfl) ⟨y2, range4 y4 y5 y6 y7⟩ (fun hHeld => ?_)
  refine tk 0 ?_ rfl (Or.inl ⟨by rfl, ?_⟩) (by assumption) ?_
  rotate_left; · (intro w hSw; (try dsimp only at hSw); go_simp; try with_reducible rfl)
  (try simp only [Act.put, sA, s0, s1])
  refine tk 1 ?_ rfl (Or.inl ⟨by rfl, ?_⟩) (by assumption) ?_
  rotate_left; · (intro w hSw; (try dsimp only at hSw); go_simp; try with_reducible rfl)
  (try simp only [Act.put, sA, s0, s1])
  refine tk 3 ?_ rfl (Or.inl ⟨by rfl, ?_⟩) (by assumption) ?_
  rotate_left; · (intro w hSw; (try dsimp only at hSw); go_simp; try with_reducible rfl)
  (try simp only [Act.put, sA, s0, s1])
  refine tk 6 ?_ rfl (Or.inl ⟨by rfl, ?_⟩) (by assumption) ?_
  rotate_left; · (intro w hSw; (try dsimp only at hSw); go_simp; try with_reducible rfl)
  (try simp only [Act.put, sA, s0, s1])
  refine tk 7 _ rfl ((yieldsIf_load_mid (by rfl) 24 _ rfl w.heap.size 4 rfl [.int .i64 s.a0, .int .i64 s.a1, .bool s.a2, .bool s.a3] _ (fun w hSw => hSw.2) Tryz.underlying24 rfl size24)) (by assumption) ?_
  (try simp only [Act.put, sA, s0, s1])
  refine wpAnyT_step (i := 2) (by kernel_rfl) rfl (fun K hK => ?_)
  (go_simp; go_at_call 132; refine (cD _).mono ?_; rintro e w9 ⟨rfl, hw9⟩; rw [hw9]; clear hw9; (try go_wp2_with fail))
  refine hK.out _ _ ?_ (fun hHeld => ?_)
  · first | exact hHeld | exact ⟨cell_keep hb3 y2, range4 (cell_keep hb3 y4) (cell_keep hb3 y5) (cell_keep hb3 y6) (cell_keep hb3 y7)⟩
  clear hK K
  (try simp only [Act.put, sA, s0, s1])
  refine tk 4 ?_ rfl (Or.inl ⟨by rfl, ?_⟩) (by assumption) ?_
  rotate_left; · (intro w hSw; (try dsimp only at hSw); go_simp; try with_reducible rfl)
  (try simp only [Act.put, sA, s0, s1])
  refine tk 5 ?_ rfl (Or.inl ⟨by rfl, ?_⟩) (by assumption) ?_
  rotate_left; · (intro w hSw; (try dsimp only at hSw); go_simp; try with_reducible rfl)
  (try simp only [Act.put, sA, s0, s1])
  refine wpAnyT_step (i := 8) (by kernel_rfl) rfl (fun K hK => ?_)
  (go_simp; go_at_call 133; refine (HcA.out _ (show Ck.Later W W2.drew from Hl2.out)).mono ?_; rintro e w3 ⟨rfl, hb3⟩; (try go_wp2_with fail))
  refine hK.out _ _ ?_ (fun hHeld => ?_)
  · first | exact hHeld | exact ⟨cell_keep hb3 y2, range4 (cell_keep hb3 y4) (cell_keep hb3 y5) (cell_keep hb3 y6) (cell_keep hb3 y7)⟩
  clear hK K
  (try simp only [Act.put, sA, s0, s1])
  refine wpAnyT_step (i := 9) (by kernel_rfl) rfl (fun K hK => ?_)
  go_simp
  refine hK.out _ _ ?_ (fun hHeld => ?_)
  · first | exact hHeld | exact ⟨cell_keep hb3 y2, range4 (cell_keep hb3 y4) (cell_keep hb3 y5) (cell_keep hb3 y6) (cell_keep hb3 y7)⟩
  clear hK K
  (try simp only [Act.put, sA, s0, s1])
  refine wpAnyT_step (i := 10) (by kernel_rfl) rfl (fun K hK => ?_)
  go_simp
  refine hK.out _ _ ?_ (fun hHeld => ?_)
  · first | exact hHeld | exact ⟨cell_keep hb3 y2, range4 (cell_keep hb3 y4) (cell_keep hb3 y5) (cell_keep hb3 y6) (cell_keep hb3 y7)⟩
  clear hK K
  (try simp only [Act.put, sA, s0, s1])
  refine wpAnyT_done (by kernel_rfl) ?_ _
  refine NoPanic.normal ?_
  all_goals (
    have y1' := cell_keep hb3 y1
    have y3' := cell_keep hb3 y3
    have r8 := range4 (cell_keep hb3 y8) (cell_keep hb3 y9) (cell_keep hb3 y10) (cell_keep hb3 y11)
    have Hl3 := Lib.hid (show Ck.Later W w3 from later_below Hl2.out (below_d hb3))
    have Hb3 := Lib.hid (show Below w.heap.size w w3 from Hb2.out.trans ((below_d hb3).mono Hb2.out.size))
    have Hr8 := Lib.hid r8
    clear hb3 r8 y0 y1 y2 y3 y4 y5 y6 y7 y8 y9 y10 y11
    cases ra)
  · go_wp2_with fail
    go_ret2
    exact ⟨rfl, Hb3.out⟩
  · go_wp2_with (first
      | (go_at_call 131; refine (HcT.out _ Hl3.out).mono ?_; rintro e w4 ⟨rfl, hb4⟩; have r8 := Hr8.out; have r84 := fun j u hu => cell_keep hb4 (r8 j u hu))
      | (go_at_call 133; refine (HcB.out _ (later_below Hl3.out hb4)).mono ?_; rintro e w5 ⟨rfl, hb5⟩)
      | (refine wpList_load_mid rfl 24 _ rfl w.heap.size 8 rfl [.int .i64 s.b0, .int .i64 s.b1, .bool s.b2, .bool s.b3] _ r84 Tryz.underlying24 rfl size24 ?_))
    go_ret2
    exact ⟨rfl, Hb3.out.trans ((hb4.trans (hb5.mono hb4.size)).mono Hb3.out.size)⟩
end Go.Proofs.YtkeibmkcgnppeaaGreatDoor

/- Sheets names: their test. -/
import Derived.Test.YtkeibmkcgnppeaaGreatDoorZHa
import Derived.Test.YtkeibmkcgnppeaaGreatDoorZGa
import Derived.Test.YtkeibmkcgnppeaaGreatDoorZShelf
import Derived.Laws.Runes
import Derived.WalkMore
set_option maxHeartbeats 32000000
set_option linter.unusedSimpArgs false
set_option linter.unusedVariables false
namespace Go.Proofs.YtkeibmkcgnppeaaGreatDoor
open Go Go.RowKit
set_option maxRecDepth 100000
attribute [local go_sem ↓] Go.wp_at_zero Go.wp_at_succ
def barred8 : ByteArray := ⟨#[91, 93, 42, 63, 58, 47, 92, 39]⟩
theorem barred_ascii : ∀ (j : Nat) b, barred8.data.toList[j]? = some b → b.toNat < 128 := by
  intro j b h
  have hm : b ∈ barred8.data.toList := List.mem_of_getElem? h
  have : ∀ b ∈ barred8.data.toList, b.toNat < 128 := by decide
  exact this b hm
theorem barred_dec : ∀ pos, pos < 8 → (Utf8.decode barred8 pos).2 = 1 ∧ (Utf8.decode barred8 pos).1 < 128 := by decide +kernel
theorem indexByte_none : ∀ {l : List UInt8} {c : UInt8}, (∀ b ∈ l, b ≠ c) → Lib.indexByte l c = -1
  | [], _, _ => rfl
  | b :: l, c, h => by
    have hb : (b == c) = false := by rw [beq_eq_false_iff_ne]; exact h b (List.mem_cons_self ..)
    have ih := indexByte_none (l := l) (c := c) fun x hx => h x (List.mem_cons_of_mem _ hx)
    simp only [Lib.indexByte, hb, ih]
    rfl
theorem rune_bad (w : World) : Calls Tryz.prog 188 #[.string barred8, .int .i32 65533] w fun e w' => e = .returned (.int .i64 (-1)) ∧ Below w.heap.size w w' := by
  go_enter Tryz.func188, Tryz.ntmps188
  go_wp2_with fail
  go_loopw [] (fun wx => ∃ pos : Nat, wx.heap[w.heap.size]? = some (.stringIter barred8 pos) ∧ pos ≤ 8 ∧ Below w.heap.size w wx) (fun w' => 8 - w'.iterPos w.heap.size)
  case atStart => exact ⟨0, heap_alloc_new _ _, Nat.zero_le _, (Below.refl _ _).alloc (Nat.le_refl _) _⟩
  case round =>
    obtain ⟨pos, hk, hpos, hbw⟩ := hrel
    by_cases hps : pos < 8
    · have hnx : ∀ ty, (Instr.next (.pointer (some ⟨w.heap.size, 0, none⟩)) true ty).run Tryz.prog wr = _ := fun ty => Lib.run_next_any_at wr w.heap.size barred8 pos ty hk hps
      have hit := Lib.iterAt_heap wr w.heap.size barred8 pos (pos + (Utf8.decode barred8 pos).2) hk
      have hbi : Below w.heap.size w (wr.iterAt w.heap.size barred8 (pos + (Utf8.decode barred8 pos).2)) := iter_below hbw (Nat.le_refl _)
      obtain ⟨d2, d1⟩ := barred_dec pos hps
      obtain ⟨R, hR⟩ : ∃ R, (Utf8.decode barred8 pos).1 = R := ⟨_, rfl⟩
      simp only [hR, d2] at hnx hit hbi d1
      have hRe : ((R : Int) == 65533) = false := by rw [beq_eq_false_iff_ne]; omega
      generalize wr.iterAt w.heap.size barred8 (pos + 1) = wi at hnx hit hbi
      have Hit := Lib.hid hit
      have Hbi := Lib.hid hbi
      have Hk := Lib.hid hk
      clear hit hbi hk d1 d2 hR
      go_wp2_with fail
      go_roundw
      case rel => exact ⟨pos + 1, Hit.out, by omega, Hbi.out⟩
      case measure =>
        simp only [World.iterPos, Hit.out, Hk.out]
        omega
    · have hnx : ∀ ty, (Instr.next (.pointer (some ⟨w.heap.size, 0, none⟩)) true ty).run Tryz.prog wr = _ := fun ty => Lib.run_next_end_at wr w.heap.size barred8 pos ty hk hps
      go_wp2_with fail
      go_ret
      exact ⟨rfl, hbw⟩
theorem encode_form (r : Int) (hv : Utf8.valid r = true) (h128 : 128 ≤ r) :
    (∃ b0 b1, Utf8.encode r = ⟨#[b0, b1]⟩ ∧ 128 ≤ b1.toNat) ∨ (∃ b0 b1 b2, Utf8.encode r = ⟨#[b0, b1, b2]⟩ ∧ 128 ≤ b2.toNat) ∨ (∃ b0 b1 b2 b3, Utf8.encode r = ⟨#[b0, b1, b2, b3]⟩ ∧ 128 ≤ b3.toNat) := by
  have hc : ¬ r.toNat < 128 := by omega
  have hl : 128 ≤ (UInt8.ofNat (128 + r.toNat % 64)).toNat := by simp; omega
  unfold Utf8.encode
  simp only [hv, if_true, hc, if_false]
  split
  · exact .inl ⟨_, _, rfl, hl⟩
  · split
    · exact .inr (.inl ⟨_, _, _, rfl, hl⟩)
    · exact .inr (.inr ⟨_, _, _, _, rfl, hl⟩)
theorem rune_valid (r : Int) (w : World) : Calls Tryz.prog 212 #[.int .i32 r] w fun e w' => e = .returned (.bool (Utf8.valid r)) ∧ w' = w := by
  rw [validRune_eq]
  have hr : r < 0 ∨ (0 ≤ r ∧ r < 55296) ∨ (55296 ≤ r ∧ r ≤ 57343) ∨ (57343 < r ∧ r ≤ 1114111) ∨ 1114111 < r := by omega
  rcases hr with h | h | h | h | h
  · rw [show validRune r = false from decide_eq_false (by omega)]
    have f1 : ¬ (0 : Int) ≤ r := by omega
    have f2 : ¬ (57343 : Int) < r := by omega
    go_enter Tryz.func212, Tryz.ntmps212
    go_wp2_with fail
    go_ret
    exact ⟨rfl, rfl⟩
  · rw [show validRune r = true from decide_eq_true (by omega)]
    have f1 : (0 : Int) ≤ r := by omega
    have f2 : r < (55296 : Int) := by omega
    go_enter Tryz.func212, Tryz.ntmps212
    go_wp2_with fail
    go_ret
    exact ⟨rfl, rfl⟩
  · rw [show validRune r = false from decide_eq_false (by omega)]
    have f1 : (0 : Int) ≤ r := by omega
    have f2 : ¬ r < (55296 : Int) := by omega
    have f3 : ¬ (57343 : Int) < r := by omega
    go_enter Tryz.func212, Tryz.ntmps212
    go_wp2_with fail
    go_ret
    exact ⟨rfl, rfl⟩
  · rw [show validRune r = true from decide_eq_true (by omega)]
    have f1 : (0 : Int) ≤ r := by omega
    have f2 : ¬ r < (55296 : Int) := by omega
    have f3 : (57343 : Int) < r := by omega
    have f4 : r ≤ (1114111 : Int) := by omega
    go_enter Tryz.func212, Tryz.ntmps212
    go_wp2_with fail
    go_ret
    exact ⟨rfl, rfl⟩
  · rw [show validRune r = false from decide_eq_false (by omega)]
    have f1 : (0 : Int) ≤ r := by omega
    have f2 : ¬ r < (55296 : Int) := by omega
    have f3 : (57343 : Int) < r := by omega
    have f4 : ¬ r ≤ (1114111 : Int) := by omega
    go_enter Tryz.func212, Tryz.ntmps212
    go_wp2_with fail
    go_ret
    exact ⟨rfl, rfl⟩
theorem byte_away (s : ByteArray) (hs : ∀ b ∈ s.data.toList, b.toNat < 128) (x : UInt8) (hx : 128 ≤ x.toNat) (w : World) : Calls Tryz.prog 211 #[.string s, .int .u8 (x.toNat : Int)] w fun e w' => e = .returned (.int .i64 (-1)) ∧ w' = w := by
  refine (Tryz.strings_IndexByte s (x.toNat : Int) w).mono ?_
  rintro e w' ⟨rfl, rfl⟩
  have hback : ((x.toNat : Int)).toNat.toUInt8 = x := by simp
  rw [hback, indexByte_none (fun b hb e => by have := hs b hb; rw [e] at this; omega)]
  exact ⟨rfl, rfl⟩
set_option maxRecDepth 1000000 in
theorem rune_high (R : Nat) (h128 : 128 ≤ R) (w : World) : Calls Tryz.prog 188 #[.string barred8, .int .i32 (R : Int)] w fun e w' => e = .returned (.int .i64 (-1)) ∧ Below w.heap.size w w' := by
  by_cases hbad : R = 65533
  · subst hbad
    exact rune_bad w
  · have f0 : (0 : Int) ≤ (R : Int) := by omega
    have f1 : ¬ (R : Int) < 128 := by omega
    have f2 : ((R : Int) == 65533) = false := by rw [beq_eq_false_iff_ne]; omega
    have cV := fun w => rune_valid (R : Int) w
    cases hv : Utf8.valid (R : Int)
    · rw [hv] at cV
      clear hv h128 hbad
      unfold barred8
      go_enter Tryz.func188, Tryz.ntmps188
      go_wp2_with (go_at_call 212; refine (cV _).mono ?_; rintro e w' ⟨rfl, rfl⟩)
      go_ret
      exact ⟨rfl, Below.refl _ _⟩
    · rw [hv] at cV
      have hf := encode_form (R : Int) hv (by omega)
      have hw2 : IntKind.i64.wrap 2 = 2 := by decide
      have hw3 : IntKind.i64.wrap 3 = 3 := by decide
      have hw4 : IntKind.i64.wrap 4 = 4 := by decide
      rcases hf with ⟨b0, b1, he, hl⟩ | ⟨b0, b1, b2, he, hl⟩ | ⟨b0, b1, b2, b3, he, hl⟩
      · have n1 : ((93 : Int) == (b1.toNat : Int)) = false := by rw [beq_eq_false_iff_ne]; omega
        have n2 : (((({ data := #[91, 93, 42, 63, 58, 47, 92, 39] } : ByteArray)[1]'(by decide)).toNat : Int) != ((({ data := #[b0, b1] } : ByteArray)[1]'(by show 1 < 2; decide)).toNat : Int)) = true := by
          show ((93 : Int) != (b1.toNat : Int)) = true
          rw [bne, n1]
          rfl
        have cB := fun s' (hs : ∀ b ∈ s'.data.toList, b.toNat < 128) w => byte_away s' hs b1 hl w
        clear hv h128 hbad hl
        unfold barred8
        go_enter Tryz.func188, Tryz.ntmps188
        go_wp2_with (go_at_call 212; refine (cV _).mono ?_; rintro e w' ⟨rfl, hw⟩; rw [hw])
        go_step3
        go_wp2_with fail
        go_loopw [9] (fun i wx => i = .int .i64 1 ∧ wx = w) (fun _ _ => 0)
        case atStart => exact ⟨rfl, rfl⟩
        obtain ⟨rfl, rfl⟩ := hrel
        go_wp2_with fail
        go_step3
        go_wp2_with fail
        go_region
        all_goals (
          go_wp2_with fail
          refine wp_region_noPanic ?_
          refine wp_region_tail (S := fun _ => True) (tail := (fun _ => false)) (by kernel_rfl) trivial (fun hHeld => ?_)
          refine tk 0 ?_ rfl (Or.inl ⟨by rfl, ?_⟩) (by assumption) ?_
          rotate_left; · (intro w hSw; (try dsimp only at hSw); go_simp; try with_reducible rfl)
          (try simp only [Act.put, sA, s0, s1])
          refine tk 1 ?_ rfl (Or.inl ⟨by rfl, ?_⟩) (by assumption) ?_
          rotate_left; · (intro w hSw; (try dsimp only at hSw); go_simp; try with_reducible rfl)
          (try simp only [Act.put, sA, s0, s1])
          refine tk 2 ?_ rfl (Or.inl ⟨by rfl, ?_⟩) (by assumption) ?_
          rotate_left; · (intro w hSw; (try dsimp only at hSw); go_simp; try with_reducible rfl)
          (try simp only [Act.put, sA, s0, s1])
          refine tk 3 ?_ rfl (Or.inl ⟨by rfl, ?_⟩) (by assumption) ?_
          rotate_left; · (intro w hSw; (try dsimp only at hSw); go_simp; try with_reducible rfl)
          (try simp only [Act.put, sA, s0, s1])
          refine tk 4 ?_ rfl (Or.inl ⟨by rfl, ?_⟩) (by assumption) ?_
          rotate_left; · (intro w hSw; (try dsimp only at hSw); go_simp; try with_reducible rfl)
          (try simp only [Act.put, sA, s0, s1])
          refine tk 5 ?_ rfl (Or.inl ⟨by rfl, ?_⟩) (by assumption) ?_
          rotate_left; · (intro w hSw; (try dsimp only at hSw); go_simp; try with_reducible rfl)
          (try simp only [Act.put, sA, s0, s1])
          refine tk 6 ?_ rfl (Or.inl ⟨by rfl, ?_⟩) (by assumption) ?_
          rotate_left; · (intro w hSw; (try dsimp only at hSw); go_simp; try with_reducible rfl)
          (try simp only [Act.put, sA, s0, s1])
          refine wpAnyT_step (i := 7) (by kernel_rfl) rfl (fun K hK => ?_)
          (go_simp; go_at_call 211; refine (cB _ (by decide +kernel) _).mono ?_; rintro e w' ⟨rfl, rfl⟩; (try go_wp2_with fail))
          refine hK.out _ _ ?_ (fun hHeld => ?_)
          · exact trivial
          clear hK K
          (try simp only [Act.put, sA, s0, s1])
          refine tk 8 ?_ rfl (Or.inl ⟨by rfl, ?_⟩) (by assumption) ?_
          rotate_left; · (intro w hSw; (try dsimp only at hSw); go_simp; try with_reducible rfl)
          (try simp only [Act.put, sA, s0, s1])
          refine wpAnyT_done (by kernel_rfl) ?_ _
          refine NoPanic.normal ?_)
        all_goals (
          go_wp2_with fail
          rw [Exit.noGoto_ret]
          simp only [Exit.inBlock]
          simp +zetaDelta only [Exit.noGoto_ret, Exit.inBlock, Exit.then]
          go_ret
          exact ⟨rfl, (Below.refl _ _).drew.drew⟩)
      · have n1 : ((42 : Int) == (b2.toNat : Int)) = false := by rw [beq_eq_false_iff_ne]; omega
        have n2 : (((({ data := #[91, 93, 42, 63, 58, 47, 92, 39] } : ByteArray)[2]'(by decide)).toNat : Int) != ((({ data := #[b0, b1, b2] } : ByteArray)[2]'(by show 2 < 3; decide)).toNat : Int)) = true := by
          show ((42 : Int) != (b2.toNat : Int)) = true
          rw [bne, n1]
          rfl
        have cB := fun s' (hs : ∀ b ∈ s'.data.toList, b.toNat < 128) w => byte_away s' hs b2 hl w
        clear hv h128 hbad hl
        unfold barred8
        go_enter Tryz.func188, Tryz.ntmps188
        go_wp2_with (go_at_call 212; refine (cV _).mono ?_; rintro e w' ⟨rfl, hw⟩; rw [hw])
        go_step3
        go_wp2_with fail
        go_loopw [9] (fun i wx => i = .int .i64 2 ∧ wx = w) (fun _ _ => 0)
        case atStart => exact ⟨rfl, rfl⟩
        obtain ⟨rfl, rfl⟩ := hrel
        go_wp2_with fail
        go_step3
        go_wp2_with fail
        go_region
        all_goals (
          go_wp2_with fail
          refine wp_region_noPanic ?_
          refine wp_region_tail (S := fun _ => True) (tail := (fun _ => false)) (by kernel_rfl) trivial (fun hHeld => ?_)
          refine tk 0 ?_ rfl (Or.inl ⟨by rfl, ?_⟩) (by assumption) ?_
          rotate_left; · (intro w hSw; (try dsimp only at hSw); go_simp; try with_reducible rfl)
          (try simp only [Act.put, sA, s0, s1])
          refine tk 1 ?_ rfl (Or.inl ⟨by rfl, ?_⟩) (by assumption) ?_
          rotate_left; · (intro w hSw; (try dsimp only at hSw); go_simp; try with_reducible rfl)
          (try simp only [Act.put, sA, s0, s1])
          refine tk 2 ?_ rfl (Or.inl ⟨by rfl, ?_⟩) (by assumption) ?_
          rotate_left; · (intro w hSw; (try dsimp only at hSw); go_simp; try with_reducible rfl)
          (try simp only [Act.put, sA, s0, s1])
          refine tk 3 ?_ rfl (Or.inl ⟨by rfl, ?_⟩) (by assumption) ?_
          rotate_left; · (intro w hSw; (try dsimp only at hSw); go_simp; try with_reducible rfl)
          (try simp only [Act.put, sA, s0, s1])
          refine tk 4 ?_ rfl (Or.inl ⟨by rfl, ?_⟩) (by assumption) ?_
          rotate_left; · (intro w hSw; (try dsimp only at hSw); go_simp; try with_reducible rfl)
          (try simp only [Act.put, sA, s0, s1])
          refine tk 5 ?_ rfl (Or.inl ⟨by rfl, ?_⟩) (by assumption) ?_
          rotate_left; · (intro w hSw; (try dsimp only at hSw); go_simp; try with_reducible rfl)
          (try simp only [Act.put, sA, s0, s1])
          refine tk 6 ?_ rfl (Or.inl ⟨by rfl, ?_⟩) (by assumption) ?_
          rotate_left; · (intro w hSw; (try dsimp only at hSw); go_simp; try with_reducible rfl)
          (try simp only [Act.put, sA, s0, s1])
          refine wpAnyT_step (i := 7) (by kernel_rfl) rfl (fun K hK => ?_)
          (go_simp; go_at_call 211; refine (cB _ (by decide +kernel) _).mono ?_; rintro e w' ⟨rfl, rfl⟩; (try go_wp2_with fail))
          refine hK.out _ _ ?_ (fun hHeld => ?_)
          · exact trivial
          clear hK K
          (try simp only [Act.put, sA, s0, s1])
          refine tk 8 ?_ rfl (Or.inl ⟨by rfl, ?_⟩) (by assumption) ?_
          rotate_left; · (intro w hSw; (try dsimp only at hSw); go_simp; try with_reducible rfl)
          (try simp only [Act.put, sA, s0, s1])
          refine wpAnyT_done (by kernel_rfl) ?_ _
          refine NoPanic.normal ?_)
        all_goals (
          go_wp2_with fail
          rw [Exit.noGoto_ret]
          simp only [Exit.inBlock]
          simp +zetaDelta only [Exit.noGoto_ret, Exit.inBlock, Exit.then]
          go_ret
          exact ⟨rfl, (Below.refl _ _).drew.drew⟩)
      · have n1 : ((63 : Int) == (b3.toNat : Int)) = false := by rw [beq_eq_false_iff_ne]; omega
        have n2 : (((({ data := #[91, 93, 42, 63, 58, 47, 92, 39] } : ByteArray)[3]'(by decide)).toNat : Int) != ((({ data := #[b0, b1, b2, b3] } : ByteArray)[3]'(by show 3 < 4; decide)).toNat : Int)) = true := by
          show ((63 : Int) != (b3.toNat : Int)) = true
          rw [bne, n1]
          rfl
        have cB := fun s' (hs : ∀ b ∈ s'.data.toList, b.toNat < 128) w => byte_away s' hs b3 hl w
        clear hv h128 hbad hl
        unfold barred8
        go_enter Tryz.func188, Tryz.ntmps188
        go_wp2_with (go_at_call 212; refine (cV _).mono ?_; rintro e w' ⟨rfl, hw⟩; rw [hw])
        go_step3
        go_wp2_with fail
        go_loopw [9] (fun i wx => i = .int .i64 3 ∧ wx = w) (fun _ _ => 0)
        case atStart => exact ⟨rfl, rfl⟩
        obtain ⟨rfl, rfl⟩ := hrel
        go_wp2_with fail
        go_step3
        go_wp2_with fail
        go_region
        all_goals (
          go_wp2_with fail
          refine wp_region_noPanic ?_
          refine wp_region_tail (S := fun _ => True) (tail := (fun _ => false)) (by kernel_rfl) trivial (fun hHeld => ?_)
          refine tk 0 ?_ rfl (Or.inl ⟨by rfl, ?_⟩) (by assumption) ?_
          rotate_left; · (intro w hSw; (try dsimp only at hSw); go_simp; try with_reducible rfl)
          (try simp only [Act.put, sA, s0, s1])
          refine tk 1 ?_ rfl (Or.inl ⟨by rfl, ?_⟩) (by assumption) ?_
          rotate_left; · (intro w hSw; (try dsimp only at hSw); go_simp; try with_reducible rfl)
          (try simp only [Act.put, sA, s0, s1])
          refine tk 2 ?_ rfl (Or.inl ⟨by rfl, ?_⟩) (by assumption) ?_
          rotate_left; · (intro w hSw; (try dsimp only at hSw); go_simp; try with_reducible rfl)
          (try simp only [Act.put, sA, s0, s1])
          refine tk 3 ?_ rfl (Or.inl ⟨by rfl, ?_⟩) (by assumption) ?_
          rotate_left; · (intro w hSw; (try dsimp only at hSw); go_simp; try with_reducible rfl)
          (try simp only [Act.put, sA, s0, s1])
          refine tk 4 ?_ rfl (Or.inl ⟨by rfl, ?_⟩) (by assumption) ?_
          rotate_left; · (intro w hSw; (try dsimp only at hSw); go_simp; try with_reducible rfl)
          (try simp only [Act.put, sA, s0, s1])
          refine tk 5 ?_ rfl (Or.inl ⟨by rfl, ?_⟩) (by assumption) ?_
          rotate_left; · (intro w hSw; (try dsimp only at hSw); go_simp; try with_reducible rfl)
          (try simp only [Act.put, sA, s0, s1])
          refine tk 6 ?_ rfl (Or.inl ⟨by rfl, ?_⟩) (by assumption) ?_
          rotate_left; · (intro w hSw; (try dsimp only at hSw); go_simp; try with_reducible rfl)
          (try simp only [Act.put, sA, s0, s1])
          refine wpAnyT_step (i := 7) (by kernel_rfl) rfl (fun K hK => ?_)
          (go_simp; go_at_call 211; refine (cB _ (by decide +kernel) _).mono ?_; rintro e w' ⟨rfl, rfl⟩; (try go_wp2_with fail))
          refine hK.out _ _ ?_ (fun hHeld => ?_)
          · exact trivial
          clear hK K
          (try simp only [Act.put, sA, s0, s1])
          refine tk 8 ?_ rfl (Or.inl ⟨by rfl, ?_⟩) (by assumption) ?_
          rotate_left; · (intro w hSw; (try dsimp only at hSw); go_simp; try with_reducible rfl)
          (try simp only [Act.put, sA, s0, s1])
          refine wpAnyT_done (by kernel_rfl) ?_ _
          refine NoPanic.normal ?_)
        all_goals (
          go_wp2_with fail
          rw [Exit.noGoto_ret]
          simp only [Exit.inBlock]
          simp +zetaDelta only [Exit.noGoto_ret, Exit.inBlock, Exit.then]
          go_ret
          exact ⟨rfl, (Below.refl _ _).drew.drew⟩)
def hitF (s : ByteArray) : Nat → Nat → Int
  | 0, _ => -1
  | g + 1, pos => if pos < s.size then (if (Utf8.decode s pos).1 < 128 ∧ 0 ≤ Lib.indexByte barred8.data.toList (Utf8.decode s pos).1.toUInt8 then (pos : Int) else hitF s g (pos + (Utf8.decode s pos).2)) else -1
theorem rune_any (R : Nat) : ∃ k : Int, ((0 : Int) ≤ k ↔ (R < 128 ∧ 0 ≤ Lib.indexByte barred8.data.toList R.toUInt8)) ∧ ∀ w, Calls Tryz.prog 188 #[.string barred8, .int .i32 (R : Int)] w fun e w' => e = .returned (.int .i64 k) ∧ Below w.heap.size w w' := by
  by_cases h : R < 128
  · refine ⟨Lib.indexByte barred8.data.toList R.toUInt8, ⟨fun hk => ⟨h, hk⟩, fun hk => hk.2⟩, fun w => ?_⟩
    refine (Tryz.strings_IndexRune_ascii barred8 (R : Int) w (by omega) (by omega)).mono ?_
    rintro e w' ⟨rfl, rfl⟩
    exact ⟨by simp, Below.refl _ _⟩
  · refine ⟨-1, ⟨fun hk => absurd hk (by decide), fun hk => absurd hk.1 h⟩, fun w => rune_high R (by omega) w⟩
theorem any_short (s : ByteArray) (h8 : s.size ≤ 8) (w : World) : Calls Tryz.prog 146 #[.string s, .string barred8] w fun e w' => e = .returned (.int .i64 (hitF s s.size 0)) ∧ Below w.heap.size w w' := by
  have h8z : decide ((8 : Int) < (s.size : Int)) = false := decide_eq_false (by omega)
  have cR := rune_any
  have hbarred : barred8 = barred8 := rfl
  have HcR := Lib.hid cR
  clear cR
  unfold barred8
  go_enter Tryz.func146, Tryz.ntmps146
  go_wp2_with (go_at_call 189; refine (Tryz.strings_shouldUseASCIISet _ _).mono ?_; rintro e w' ⟨rfl, hw⟩; rw [hw, h8z])
  go_loopw [9, 10] (fun _ _ wx => ∃ pos gf : Nat, wx.heap[w.heap.size]? = some (.stringIter s pos) ∧ pos ≤ s.size ∧ Below w.heap.size w wx ∧ hitF s gf pos = hitF s s.size 0 ∧ s.size ≤ pos + gf) (fun _ _ w' => s.size - w'.iterPos w.heap.size)
  case atStart => exact ⟨0, s.size, heap_alloc_new _ _, Nat.zero_le _, (Below.refl _ _).alloc (Nat.le_refl _) _, rfl, by omega⟩
  case round =>
    obtain ⟨pos, gk, hk, hpos, hbw, hleft, hfu⟩ := hrel
    by_cases hps : pos < s.size
    · obtain ⟨g', rfl⟩ : ∃ g', gk = g' + 1 := ⟨gk - 1, by omega⟩
      have hnx : ∀ ty, (Instr.next (.pointer (some ⟨w.heap.size, 0, none⟩)) true ty).run Tryz.prog wr = _ := fun ty => Lib.run_next_any_at wr w.heap.size s pos ty hk hps
      have hpz : (pos : Int) < (s.size : Int) := by omega
      have hit := Lib.iterAt_heap wr w.heap.size s pos (pos + (Utf8.decode s pos).2) hk
      have hbi : Below w.heap.size w (wr.iterAt w.heap.size s (pos + (Utf8.decode s pos).2)) := iter_below hbw (Nat.le_refl _)
      have hk2 := Lib.decodeGo_le_size (s.extract pos s.size)
      rw [Lib.tail_size, decode_tail s pos hps] at hk2
      have hwd := Lib.width_pos s pos
      obtain ⟨R, hR⟩ : ∃ R, (Utf8.decode s pos).1 = R := ⟨_, rfl⟩
      obtain ⟨K, hK⟩ : ∃ K, (Utf8.decode s pos).2 = K := ⟨_, rfl⟩
      simp only [hitF, hps, if_true, hR, hK] at hleft
      simp only [hR, hK] at hnx hit hbi hk2 hwd
      generalize wr.iterAt w.heap.size s (pos + K) = wi at hnx hit hbi
      obtain ⟨k, hkk, cK⟩ := HcR.out R
      have hleft : (if (0 : Int) ≤ k then (pos : Int) else hitF s g' (pos + K)) = hitF s s.size 0 := by
        rw [← hleft]
        by_cases h : (0 : Int) ≤ k
        · rw [if_pos h, if_pos (hkk.1 h)]
        · rw [if_neg h, if_neg (fun h' => h (hkk.2 h'))]
      have Hit := Lib.hid hit
      have Hleft := Lib.hid hleft
      have Hbi := Lib.hid hbi
      have Hk := Lib.hid hk
      have HcK := Lib.hid cK
      clear hleft hR hK hit hbi hk hkk cK
      have lz := lt_of_some Hit.out
      by_cases hk0 : (0 : Int) ≤ k
      · go_wp2_with (go_at_call 188; refine (HcK.out _).mono ?_; rintro e W2 ⟨rfl, hb2⟩)
        go_ret
        have hl := Hleft.out
        rw [if_pos hk0] at hl
        exact ⟨by rw [← hl]; rfl, Hbi.out.trans (hb2.mono Hbi.out.size)⟩
      · go_wp2_with (go_at_call 188; refine (HcK.out _).mono ?_; rintro e W2 ⟨rfl, hb2⟩)
        have hl := Hleft.out
        rw [if_neg (by omega)] at hl
        have hit2 := (hb2.block w.heap.size lz).trans Hit.out
        go_roundw
        case rel => exact ⟨pos + K, g', hit2, by omega, Hbi.out.trans (hb2.mono Hbi.out.size), hl, by omega⟩
        case measure =>
          simp only [World.iterPos, hit2, Hk.out]
          omega
    · have hv : hitF s s.size 0 = -1 := by
        rw [← hleft]
        cases gk with
        | zero => rfl
        | succ g => simp only [hitF, hps, if_false]
      have hnx : ∀ ty, (Instr.next (.pointer (some ⟨w.heap.size, 0, none⟩)) true ty).run Tryz.prog wr = _ := fun ty => Lib.run_next_end_at wr w.heap.size s pos ty hk hps
      have Hv := Lib.hid hv
      clear hv hleft
      go_wp2_with fail
      go_ret
      exact ⟨by rw [Hv.out]; rfl, hbw⟩
theorem barred_call (s : ByteArray) (hs : s.size < 4294967281) : ∃ b : Bool, ∀ w, Calls Tryz.prog 102 #[.string s, .string barred8] w fun e w' => e = .returned (.bool b) ∧ Below w.heap.size w w' := by
  have h : ∃ k : Int, ∀ w, Calls Tryz.prog 146 #[.string s, .string barred8] w fun e w' => e = .returned (.int .i64 k) ∧ Below w.heap.size w w' := by
    by_cases h8 : s.size ≤ 8
    · exact ⟨_, fun w => any_short s h8 w⟩
    · refine ⟨_, fun w => (Tryz.strings_IndexAny_long (fun w => by kernel_rfl) s barred8 w (by decide) (by omega) hs (by decide) barred_ascii).mono fun e w' h => ⟨h.1, ?_⟩⟩
      rw [h.2]
      exact ((Below.refl _ _).alloc (Nat.le_refl _) _).alloc (by simp) _
  obtain ⟨k, c⟩ := h
  refine ⟨decide (0 ≤ k), fun w => ?_⟩
  have HcK := Lib.hid c
  clear c
  unfold barred8 at HcK ⊢
  by_cases hk : (0 : Int) ≤ k
  all_goals (
    go_enter Tryz.func102, Tryz.ntmps102
    go_wp2_with (go_at_call 146; refine (HcK.out _).mono ?_; rintro e W2 ⟨rfl, hb2⟩)
    go_ret
    exact ⟨by simp [hk], hb2⟩)
def highF (s : ByteArray) : Nat → Nat → Bool
  | 0, _ => true
  | g + 1, pos => if pos < s.size then (if (Utf8.decode s pos).1 < 32 then false else highF s g (pos + (Utf8.decode s pos).2)) else true
theorem sheet_call {W : World} (hg : Ck.Consts W) (hT : Ck.Tabs W) (s : ByteArray) (hs : s.size ≤ 1048576) : ∃ b : Bool, ∀ w, Ck.Later W w → Calls Tryz.prog 60 #[.string s] w fun e w' => e = .returned (.bool b) ∧ Below w.heap.size w w' := by
  obtain ⟨q, cQ⟩ := barred_call s (by omega)
  have HcQ := Lib.hid cQ
  have HcV : Hid (∀ w, Ck.Later W w → _) := Lib.hid (fun w hw => chars_valid hg hT s (by omega) w hw)
  clear cQ hg hT
  generalize validT s = v at HcV
  cases v
  · refine ⟨false, fun w hw => ?_⟩
    have Hw := Lib.hid hw
    clear hw HcQ
    go_enter Tryz.func60, Tryz.ntmps60
    go_wp2_with (go_at_call 101; refine (HcV.out _ Hw.out).mono ?_; rintro e W1 ⟨⟨i, rfl⟩, hb1⟩)
    go_ret
    exact ⟨rfl, hb1⟩
  · by_cases h1 : s.size < 1
    · refine ⟨false, fun w hw => ?_⟩
      have Hw := Lib.hid hw
      have h1z : (s.size : Int) < 1 := by omega
      clear hw HcQ
      go_enter Tryz.func60, Tryz.ntmps60
      go_wp2_with (go_at_call 101; refine (HcV.out _ Hw.out).mono ?_; rintro e W1 ⟨⟨i, rfl⟩, hb1⟩)
      go_ret
      exact ⟨rfl, hb1⟩
    · have h1z : ¬ (s.size : Int) < 1 := by omega
      by_cases h2 : 64 < s.size
      · refine ⟨false, fun w hw => ?_⟩
        have Hw := Lib.hid hw
        have h2z : (64 : Int) < (s.size : Int) := by omega
        clear hw HcQ
        go_enter Tryz.func60, Tryz.ntmps60
        go_wp2_with (go_at_call 101; refine (HcV.out _ Hw.out).mono ?_; rintro e W1 ⟨⟨i, rfl⟩, hb1⟩)
        go_ret
        exact ⟨rfl, hb1⟩
      · have h2z : ¬ (64 : Int) < (s.size : Int) := by omega
        cases q
        · refine ⟨highF s s.size 0, fun w hw => ?_⟩
          have Hw := Lib.hid hw
          clear hw
          unfold barred8 at HcQ
          go_enter Tryz.func60, Tryz.ntmps60
          go_wp2_with (first
            | (go_at_call 101; refine (HcV.out _ Hw.out).mono ?_; rintro e W1 ⟨⟨i, rfl⟩, hb1⟩)
            | (go_at_call 102; refine (HcQ.out _).mono ?_; rintro e W2 ⟨rfl, hb2⟩))
          have hB2 : Below w.heap.size w W2 := hb1.trans (hb2.mono hb1.size)
          clear hb1 hb2 HcV HcQ
          have lz2 := hB2.size
          go_loopw [6] (fun _ wx => ∃ pos gf : Nat, wx.heap[W2.heap.size]? = some (.stringIter s pos) ∧ pos ≤ s.size ∧ Below w.heap.size w wx ∧ highF s gf pos = highF s s.size 0 ∧ s.size ≤ pos + gf) (fun _ w' => s.size - w'.iterPos W2.heap.size)
          case atStart => exact ⟨0, s.size, heap_alloc_new _ _, Nat.zero_le _, hB2.alloc lz2 _, rfl, by omega⟩
          case round =>
            obtain ⟨pos, gk, hk, hpos, hbw, hleft, hfu⟩ := hrel
            by_cases hps : pos < s.size
            · obtain ⟨g', rfl⟩ : ∃ g', gk = g' + 1 := ⟨gk - 1, by omega⟩
              have hnx : ∀ ty, (Instr.next (.pointer (some ⟨W2.heap.size, 0, none⟩)) true ty).run Tryz.prog wr = _ := fun ty => Lib.run_next_any_at wr W2.heap.size s pos ty hk hps
              have hit := Lib.iterAt_heap wr W2.heap.size s pos (pos + (Utf8.decode s pos).2) hk
              have hbi : Below w.heap.size w (wr.iterAt W2.heap.size s (pos + (Utf8.decode s pos).2)) := iter_below hbw lz2
              have hk2 := Lib.decodeGo_le_size (s.extract pos s.size)
              rw [Lib.tail_size, decode_tail s pos hps] at hk2
              have hwd := Lib.width_pos s pos
              obtain ⟨R, hR⟩ : ∃ R, (Utf8.decode s pos).1 = R := ⟨_, rfl⟩
              obtain ⟨K, hK⟩ : ∃ K, (Utf8.decode s pos).2 = K := ⟨_, rfl⟩
              simp only [highF, hps, if_true, hR, hK] at hleft
              simp only [hR, hK] at hnx hit hbi hk2 hwd
              generalize wr.iterAt W2.heap.size s (pos + K) = wi at hnx hit hbi
              have Hit := Lib.hid hit
              have Hleft := Lib.hid hleft
              have Hbi := Lib.hid hbi
              have Hk := Lib.hid hk
              clear hleft hR hK hit hbi hk
              by_cases hR0 : R < 32
              · have hRz : (R : Int) < 32 := by omega
                go_wp2_with fail
                go_ret
                have hl := Hleft.out
                rw [if_pos hR0] at hl
                exact ⟨by rw [← hl]; rfl, Hbi.out⟩
              · have hRz : ¬ (R : Int) < 32 := by omega
                have hl := Hleft.out
                rw [if_neg hR0] at hl
                have Hl := Lib.hid hl
                clear hl
                go_wp2_with fail
                go_roundw
                case rel => exact ⟨pos + K, g', Hit.out, by omega, Hbi.out, Hl.out, by omega⟩
                case measure =>
                  simp only [World.iterPos, Hit.out, Hk.out]
                  omega
            · have hv : highF s s.size 0 = true := by
                rw [← hleft]
                cases gk with
                | zero => rfl
                | succ g => simp only [highF, hps, if_false]
              have hnx : ∀ ty, (Instr.next (.pointer (some ⟨W2.heap.size, 0, none⟩)) true ty).run Tryz.prog wr = _ := fun ty => Lib.run_next_end_at wr W2.heap.size s pos ty hk hps
              have Hv := Lib.hid hv
              clear hv hleft
              go_wp2_with fail
              go_ret
              exact ⟨by rw [Hv.out]; rfl, hbw⟩
        · refine ⟨false, fun w hw => ?_⟩
          have Hw := Lib.hid hw
          clear hw
          unfold barred8 at HcQ
          go_enter Tryz.func60, Tryz.ntmps60
          go_wp2_with (first
            | (go_at_call 101; refine (HcV.out _ Hw.out).mono ?_; rintro e W1 ⟨⟨i, rfl⟩, hb1⟩)
            | (go_at_call 102; refine (HcQ.out _).mono ?_; rintro e W2 ⟨rfl, hb2⟩))
          go_ret
          exact ⟨rfl, hb1.trans (hb2.mono hb1.size)⟩
end Go.Proofs.YtkeibmkcgnppeaaGreatDoor

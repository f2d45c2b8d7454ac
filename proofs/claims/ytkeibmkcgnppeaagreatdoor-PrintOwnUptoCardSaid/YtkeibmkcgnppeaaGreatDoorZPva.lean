/- A term s test at a call. -/
import Derived.Test.YtkeibmkcgnppeaaGreatDoorZPo
set_option maxHeartbeats 32000000
set_option linter.unusedSimpArgs false
set_option linter.unusedVariables false
namespace Go.Proofs.YtkeibmkcgnppeaaGreatDoor
open Go Go.RowKit
set_option maxRecDepth 100000
theorem yieldsIf_build {P : Program} {ops : Array Oper} {S : World → Prop} {op : Oper} {a : Act} (hw : Region.wanted op (yielded ops a.tmps) = true) (t : TypeId) (parts : Array (Nat × Operand)) (ho : op.op = .build t parts) (cells : Array Value)
    (hf : P.built t (parts.map fun (i, x) => (i, a.eval x)).toList = some cells) : YieldsIf P ops S op (.agg cells) a :=
  .inl ⟨hw, fun w _ => by
    unfold execOp
    simp only [ho, Sem.run_bind, run_build w t _ _ hf, Result.andThen_ok]
    rfl⟩
theorem fits_six {W : World} (s : Scal) (p : Option Addr) (n m : Nat) (hop : s.op = 6) (d : Int) (h0 : 0 ≤ d) (hd : d ≤ 64) (q1 q2 q3 q4 : Bool) (un : ByteArray)
    (cS : ∀ w, Ck.Later W w → Calls Tryz.prog 123 #[.agg (({ s with nm := ⟨#[]⟩ } : Scal).row (.slice none 0 0)).toArray, .agg (bareA 6 ⟨#[]⟩)] w fun e w' => e = .returned (.bool q1) ∧ Below w.heap.size w w')
    (cN : ∀ w, Calls Tryz.prog 113 #[.string s.nm] w fun e w' => e = .returned (.bool q2) ∧ w' = w)
    (cU : ∀ w, Calls Tryz.prog 64 #[.string s.nm] w fun e w' => e = .returned (.string un) ∧ Below w.heap.size w w') (hue : (un.toList == s.nm.toList) = q3)
    (cA : ∀ w, Ck.Later W w → Calls Tryz.prog 124 #[.slice p n m, .int .i64 (d + 1)] w fun e w' => e = .returned (.bool q4) ∧ Below w.heap.size w w') (w : World) (hw : Ck.Later W w) :
    Calls Tryz.prog 74 #[.agg (s.arr (.slice p n m)), .int .i64 d] w fun e w' => e = .returned (.bool (q1 && q2 && q3 && q4)) ∧ Below w.heap.size w w' := by
  have hA1 := Scal.arr_size s (.slice p n m)
  have hwr : IntKind.i64.wrap (d + 1) = d + 1 := by
    rw [IntKind.wrap_i64]
    omega
  have Hwr := Lib.hid hwr
  clear hwr
  have cV := fun w => level_call 6 w
  have e9 : levelF 6 = 9 := rfl
  rw [e9] at cV
  obtain ⟨v, hv⟩ : ∃ v, (q1 && q2 && q3 && q4) = v := ⟨_, rfl⟩
  rw [hv]
  have Hv2 := Lib.hid hv
  have HcS := Lib.hid cS
  have HcN2 := Lib.hid cN
  have HcU2 := Lib.hid cU
  have HcA2 := Lib.hid cA
  have HcV := Lib.hid cV
  have H6 := Lib.hid hop
  have Hw := Lib.hid hw
  have hdz : (64 < d) = False := eq_false (by omega)
  clear hv cS cN cU cA cV e9 hop hw
  go_enter Tryz.func74, Tryz.ntmps74
  go_upto_region 4 with (first
    | (refine wpList_load_row rfl 29 _ rfl w.heap.size rfl 29 (s.arr (.slice p n m)) (0, 0) _ (heap_alloc_new _ _) Tryz.underlying29 rfl size29 ?_)
    | (refine wpList_store_row rfl 29 _ _ rfl (w.heap.size + 1) (s.arr (.slice p n m)) rfl rfl 29 zeroTerm (heap_alloc2_new _ _ _) size29 rfl (Scal.arr_one _ _ _ _) ?_))
  generalize hW : World.setRow _ _ _ = W2
  have hB1 : W2.heap[w.heap.size]? = some (.cells (s.row (.slice p n m)).toArray 29 (0, 0)) := by
    rw [← hW, setRow_far _ _ (by omega), heap_alloc_old _ _ (by simp)]
    exact heap_alloc_new _ _
  have hB2 : W2.heap[w.heap.size + 1]? = some (.cells (s.row (.slice p n m)).toArray 29 (0, 0)) := by
    rw [← hW]
    exact setRow_heap _ _ _ _ _ _ (heap_alloc2_new _ _ _)
  have hbw : Below w.heap.size w W2 := by
    rw [← hW]
    exact below_setRow (((Below.refl _ _).alloc (Nat.le_refl _) _).alloc (by simp) _) (Nat.le_succ _) _
  clear hW
  have y18 := block18 hB2
  have z18 : W2.frozen? ⟨w.heap.size + 1, 18, none⟩ = false := by simp [World.frozen?, hB2]
  have Hb1 := Lib.hid hB1
  have Hb2 := Lib.hid hB2
  have Hbw := Lib.hid hbw
  clear hB1 hB2 hbw
  go_upto_region 5 with fail
  generalize hW3 : World.setCell W2 _ _ = W3
  have hC1 : W3.heap[w.heap.size]? = some (.cells (s.row (.slice p n m)).toArray 29 (0, 0)) := by
    rw [← hW3, set_other W2 ⟨w.heap.size + 1, 18, none⟩ (.slice none 0 0) (show w.heap.size ≠ w.heap.size + 1 by omega)]
    exact Hb1.out
  have hC2 : W3.heap[w.heap.size + 1]? = some (.cells (s.row (.slice none 0 0)).toArray 29 (0, 0)) := by
    rw [← hW3]
    exact set_block (i := 18) Hb2.out (.slice none 0 0)
  have hbw3 : Below w.heap.size w W3 := by
    rw [← hW3]
    exact set_below Hbw.out (Nat.le_succ _) _
  clear hW3 y18 z18
  obtain ⟨x0, -, -, -, x4, -, -, -, -, -, -, -, -, -, -, -, -, -, x18⟩ := block_all hC1
  rw [H6.out] at x0
  obtain ⟨-, -, -, -, y4, -, -, -, -, -, -, -, -, -, -, -, -, -, -⟩ := block_all hC2
  have z4 : W3.frozen? ⟨w.heap.size + 1, 4, none⟩ = false := by simp [World.frozen?, hC2]
  have Hc1' := Lib.hid hC1
  have Hc2' := Lib.hid hC2
  have Hbw3 := Lib.hid hbw3
  have Hl3 := Lib.hid (later_below Hw.out hbw3)
  clear hC1 hC2 hbw3
  clear x18
  go_wp2_with (go_at_call 122; refine (HcV.out _).mono ?_; rintro e w5 ⟨rfl, hw5⟩; rw [hw5]; clear hw5)
  generalize hW4 : World.setCell W3 _ _ = W4
  have hD1 : W4.heap[w.heap.size]? = some (.cells (s.row (.slice p n m)).toArray 29 (0, 0)) := by
    rw [← hW4, set_other W3 ⟨w.heap.size + 1, 4, none⟩ (.string ⟨#[]⟩) (show w.heap.size ≠ w.heap.size + 1 by omega)]
    exact Hc1'.out
  have hD2 : W4.heap[w.heap.size + 1]? = some (.cells (({ s with nm := ⟨#[]⟩ } : Scal).row (.slice none 0 0)).toArray 29 (0, 0)) := by
    rw [← hW4]
    exact set_block (i := 4) Hc2'.out (.string ⟨#[]⟩)
  have hb4 : Below w.heap.size w W4 := by
    rw [← hW4]
    exact set_below Hbw3.out (Nat.le_succ _) _
  clear hW4 x0 x4 y4 z4
  obtain ⟨x0, -, -, -, x4, -, -, -, -, -, -, -, -, -, -, -, -, -, x18⟩ := block_all hD1
  rw [H6.out] at x0
  have xr : Cells W4 (w.heap.size + 1) 0 { s with nm := ⟨#[]⟩ } (.slice none 0 0) := cells_block hD2
  have x0 : W4.drew.cell? _ = _ := x0
  have x4 : W4.drew.cell? _ = _ := x4
  have x18 : W4.drew.cell? _ = _ := x18
  have xr : Cells W4.drew _ _ _ _ := xr
  have Hb4 := Lib.hid hb4
  have hl4 : Ck.Later W W4 := later_below Hw.out hb4
  have Hl4 := Lib.hid (show Ck.Later W W4.drew from hl4)
  clear hl4
  clear hD1 hD2 hb4
  refine wp_region_noPanic ?_
  refine wp_region_tail (S := fun w' => w'.cell? ⟨w.heap.size, 0, none⟩ = some (.int .i64 6) ∧ w'.cell? ⟨w.heap.size, 4, none⟩ = some (.string s.nm) ∧ w'.cell? ⟨w.heap.size, 18, none⟩ = some (.slice p n m) ∧ w'.rangeAt (w.heap.size + 1) 0 (({ s with nm := ⟨#[]⟩ } : Scal).row (.slice none 0 0))) (tail := (fun _ => false)) (by kernel_rfl) ⟨x0, x4, x18, xr⟩ (fun hHeld => ?_)
  refine tk 0 (.agg (({ s with nm := ⟨#[]⟩ } : Scal).row (.slice none 0 0)).toArray) rfl ((yieldsIf_load_mid (by kernel_rfl) 29 (.tmp 5) rfl (w.heap.size + 1) 0 (by kernel_rfl) (({ s with nm := ⟨#[]⟩ } : Scal).row (.slice none 0 0)) _ (fun w hSw => hSw.2.2.2) Tryz.underlying29 rfl size29)) (by assumption) ?_
  (try simp only [Act.put, sA, s0, s1])
  refine tk 1 (.pointer (some ⟨w.heap.size, 0, none⟩)) rfl (Or.inl ⟨by kernel_rfl, ?_⟩) (by assumption) ?_
  · (intro w hSw; (try dsimp only at hSw); go_simp; try with_reducible rfl; try simp)
  (try simp only [Act.put, sA, s0, s1])
  refine tk 2 (.int .i64 6) rfl (Or.inl ⟨by kernel_rfl, ?_⟩) (by assumption) ?_
  · (intro w hSw; (try dsimp only at hSw); go_simp; try with_reducible rfl; try simp)
  (try simp only [Act.put, sA, s0, s1])
  refine tk 3 _ rfl ((yieldsIf_build (by kernel_rfl) 29 _ rfl (bareA 6 ⟨#[]⟩) (by kernel_rfl))) (by assumption) ?_
  (try simp only [Act.put, sA, s0, s1])
  refine wpAnyT_step (i := 4) (by kernel_rfl) rfl (fun K hK => ?_)
  (go_simp; go_at_call 123; refine (HcS.out _ Hl4.out).mono ?_; rintro e w5 ⟨rfl, hb5⟩; (try go_wp2_with fail))
  refine hK.out _ _ ?_ (fun hHeld => ?_)
  · exact ⟨cell_keep hb5 x0, cell_keep hb5 x4, cell_keep hb5 x18, Cells.keep xr hb5⟩
  clear hK K
  (try simp only [Act.put, sA, s0, s1])
  cases q1
  · refine tk 5 (.bool false) rfl (Or.inl ⟨by kernel_rfl, ?_⟩) (by assumption) ?_
    · (intro w hSw; (try dsimp only at hSw); go_simp; try with_reducible rfl; try simp)
    (try simp only [Act.put, sA, s0, s1])
    refine tk 6 undef rfl (Or.inr ⟨by kernel_rfl, rfl⟩) (by assumption) ?_
    (try simp only [Act.put, sA, s0, s1])
    refine tk 7 undef rfl (Or.inr ⟨by kernel_rfl, rfl⟩) (by assumption) ?_
    (try simp only [Act.put, sA, s0, s1])
    refine tk 8 undef rfl (Or.inr ⟨by kernel_rfl, rfl⟩) (by assumption) ?_
    (try simp only [Act.put, sA, s0, s1])
    refine tk 9 (.bool false) rfl (Or.inl ⟨by kernel_rfl, ?_⟩) (by assumption) ?_
    · (intro w hSw; (try dsimp only at hSw); go_simp; try with_reducible rfl; try simp)
    (try simp only [Act.put, sA, s0, s1])
    refine tk 10 (.bool false) rfl (Or.inl ⟨by kernel_rfl, ?_⟩) (by assumption) ?_
    · (intro w hSw; (try dsimp only at hSw); go_simp; try with_reducible rfl; try simp)
    (try simp only [Act.put, sA, s0, s1])
    refine tk 11 undef rfl (Or.inr ⟨by kernel_rfl, rfl⟩) (by assumption) ?_
    (try simp only [Act.put, sA, s0, s1])
    refine tk 12 undef rfl (Or.inr ⟨by kernel_rfl, rfl⟩) (by assumption) ?_
    (try simp only [Act.put, sA, s0, s1])
    refine tk 13 undef rfl (Or.inr ⟨by kernel_rfl, rfl⟩) (by assumption) ?_
    (try simp only [Act.put, sA, s0, s1])
    refine tk 14 undef rfl (Or.inr ⟨by kernel_rfl, rfl⟩) (by assumption) ?_
    (try simp only [Act.put, sA, s0, s1])
    refine tk 15 undef rfl (Or.inr ⟨by kernel_rfl, rfl⟩) (by assumption) ?_
    (try simp only [Act.put, sA, s0, s1])
    refine tk 16 undef rfl (Or.inr ⟨by kernel_rfl, rfl⟩) (by assumption) ?_
    (try simp only [Act.put, sA, s0, s1])
    refine tk 17 (.bool false) rfl (Or.inl ⟨by kernel_rfl, ?_⟩) (by assumption) ?_
    · (intro w hSw; (try dsimp only at hSw); go_simp; try with_reducible rfl; try simp)
    (try simp only [Act.put, sA, s0, s1])
    refine tk 18 (.bool false) rfl (Or.inl ⟨by kernel_rfl, ?_⟩) (by assumption) ?_
    · (intro w hSw; (try dsimp only at hSw); go_simp; try with_reducible rfl; try simp)
    (try simp only [Act.put, sA, s0, s1])
    refine tk 19 undef rfl (Or.inr ⟨by kernel_rfl, rfl⟩) (by assumption) ?_
    (try simp only [Act.put, sA, s0, s1])
    refine tk 20 undef rfl (Or.inr ⟨by kernel_rfl, rfl⟩) (by assumption) ?_
    (try simp only [Act.put, sA, s0, s1])
    refine tk 21 undef rfl (Or.inr ⟨by kernel_rfl, rfl⟩) (by assumption) ?_
    (try simp only [Act.put, sA, s0, s1])
    refine tk 22 undef rfl (Or.inr ⟨by kernel_rfl, rfl⟩) (by assumption) ?_
    (try simp only [Act.put, sA, s0, s1])
    refine tk 23 undef rfl (Or.inr ⟨by kernel_rfl, rfl⟩) (by assumption) ?_
    (try simp only [Act.put, sA, s0, s1])
    refine tk 24 (.bool false) rfl (Or.inl ⟨by kernel_rfl, ?_⟩) (by assumption) ?_
    · (intro w hSw; (try dsimp only at hSw); go_simp; try with_reducible rfl; try simp)
    (try simp only [Act.put, sA, s0, s1])
    refine wpAnyT_step (i := 25) (by kernel_rfl) rfl (fun K hK => ?_)
    go_simp
    refine hK.out _ _ ?_ (fun hHeld => ?_)
    · exact ⟨cell_keep hb5 x0, cell_keep hb5 x4, cell_keep hb5 x18, Cells.keep xr hb5⟩
    clear hK K
    (try simp only [Act.put, sA, s0, s1])
    refine wpAnyT_done (by kernel_rfl) ?_ _
    refine NoPanic.normal ?_
    all_goals (
      go_wp2_with fail
      go_ret
      exact ⟨by rw [← Hv2.out]; rfl, Hb4.out.trans ((below_d hb5).mono Hb4.out.size)⟩)
  · refine tk 5 (.bool true) rfl (Or.inl ⟨by kernel_rfl, ?_⟩) (by assumption) ?_
    · (intro w hSw; (try dsimp only at hSw); go_simp; try with_reducible rfl; try simp)
    (try simp only [Act.put, sA, s0, s1])
    refine tk 6 (.pointer (some ⟨w.heap.size, 4, none⟩)) rfl (Or.inl ⟨by kernel_rfl, ?_⟩) (by assumption) ?_
    · (intro w hSw; (try dsimp only at hSw); go_simp; try with_reducible rfl; try simp)
    (try simp only [Act.put, sA, s0, s1])
    refine tk 7 (.string s.nm) rfl (Or.inl ⟨by kernel_rfl, ?_⟩) (by assumption) ?_
    · (intro w hSw; (try dsimp only at hSw); go_simp; try with_reducible rfl; try simp)
    (try simp only [Act.put, sA, s0, s1])
    refine wpAnyT_step (i := 8) (by kernel_rfl) rfl (fun K hK => ?_)
    (go_simp; go_at_call 113; refine (HcN2.out _).mono ?_; rintro e w8 ⟨rfl, hw8⟩; rw [hw8]; clear hw8; (try go_wp2_with fail))
    refine hK.out _ _ ?_ (fun hHeld => ?_)
    · exact ⟨cell_keep hb5 x0, cell_keep hb5 x4, cell_keep hb5 x18, Cells.keep xr hb5⟩
    clear hK K
    (try simp only [Act.put, sA, s0, s1])
    cases q2
    · refine tk 9 (.bool false) rfl (Or.inl ⟨by kernel_rfl, ?_⟩) (by assumption) ?_
      · (intro w hSw; (try dsimp only at hSw); go_simp; try with_reducible rfl; try simp)
      (try simp only [Act.put, sA, s0, s1])
      refine tk 10 (.bool false) rfl (Or.inl ⟨by kernel_rfl, ?_⟩) (by assumption) ?_
      · (intro w hSw; (try dsimp only at hSw); go_simp; try with_reducible rfl; try simp)
      (try simp only [Act.put, sA, s0, s1])
      refine tk 11 undef rfl (Or.inr ⟨by kernel_rfl, rfl⟩) (by assumption) ?_
      (try simp only [Act.put, sA, s0, s1])
      refine tk 12 undef rfl (Or.inr ⟨by kernel_rfl, rfl⟩) (by assumption) ?_
      (try simp only [Act.put, sA, s0, s1])
      refine tk 13 undef rfl (Or.inr ⟨by kernel_rfl, rfl⟩) (by assumption) ?_
      (try simp only [Act.put, sA, s0, s1])
      refine tk 14 undef rfl (Or.inr ⟨by kernel_rfl, rfl⟩) (by assumption) ?_
      (try simp only [Act.put, sA, s0, s1])
      refine tk 15 undef rfl (Or.inr ⟨by kernel_rfl, rfl⟩) (by assumption) ?_
      (try simp only [Act.put, sA, s0, s1])
      refine tk 16 undef rfl (Or.inr ⟨by kernel_rfl, rfl⟩) (by assumption) ?_
      (try simp only [Act.put, sA, s0, s1])
      refine tk 17 (.bool false) rfl (Or.inl ⟨by kernel_rfl, ?_⟩) (by assumption) ?_
      · (intro w hSw; (try dsimp only at hSw); go_simp; try with_reducible rfl; try simp)
      (try simp only [Act.put, sA, s0, s1])
      refine tk 18 (.bool false) rfl (Or.inl ⟨by kernel_rfl, ?_⟩) (by assumption) ?_
      · (intro w hSw; (try dsimp only at hSw); go_simp; try with_reducible rfl; try simp)
      (try simp only [Act.put, sA, s0, s1])
      refine tk 19 undef rfl (Or.inr ⟨by kernel_rfl, rfl⟩) (by assumption) ?_
      (try simp only [Act.put, sA, s0, s1])
      refine tk 20 undef rfl (Or.inr ⟨by kernel_rfl, rfl⟩) (by assumption) ?_
      (try simp only [Act.put, sA, s0, s1])
      refine tk 21 undef rfl (Or.inr ⟨by kernel_rfl, rfl⟩) (by assumption) ?_
      (try simp only [Act.put, sA, s0, s1])
      refine tk 22 undef rfl (Or.inr ⟨by kernel_rfl, rfl⟩) (by assumption) ?_
      (try simp only [Act.put, sA, s0, s1])
      refine tk 23 undef rfl (Or.inr ⟨by kernel_rfl, rfl⟩) (by assumption) ?_
      (try simp only [Act.put, sA, s0, s1])
      refine tk 24 (.bool false) rfl (Or.inl ⟨by kernel_rfl, ?_⟩) (by assumption) ?_
      · (intro w hSw; (try dsimp only at hSw); go_simp; try with_reducible rfl; try simp)
      (try simp only [Act.put, sA, s0, s1])
      refine wpAnyT_step (i := 25) (by kernel_rfl) rfl (fun K hK => ?_)
      go_simp
      refine hK.out _ _ ?_ (fun hHeld => ?_)
      · exact ⟨cell_keep hb5 x0, cell_keep hb5 x4, cell_keep hb5 x18, Cells.keep xr hb5⟩
      clear hK K
      (try simp only [Act.put, sA, s0, s1])
      refine wpAnyT_done (by kernel_rfl) ?_ _
      refine NoPanic.normal ?_
      all_goals (
        go_wp2_with fail
        go_ret
        exact ⟨by rw [← Hv2.out]; rfl, Hb4.out.trans ((below_d hb5).mono Hb4.out.size)⟩)
    · refine tk 9 (.bool true) rfl (Or.inl ⟨by kernel_rfl, ?_⟩) (by assumption) ?_
      · (intro w hSw; (try dsimp only at hSw); go_simp; try with_reducible rfl; try simp)
      (try simp only [Act.put, sA, s0, s1])
      refine tk 10 (.bool true) rfl (Or.inl ⟨by kernel_rfl, ?_⟩) (by assumption) ?_
      · (intro w hSw; (try dsimp only at hSw); go_simp; try with_reducible rfl; try simp)
      (try simp only [Act.put, sA, s0, s1])
      refine tk 11 (.pointer (some ⟨w.heap.size, 4, none⟩)) rfl (Or.inl ⟨by kernel_rfl, ?_⟩) (by assumption) ?_
      · (intro w hSw; (try dsimp only at hSw); go_simp; try with_reducible rfl; try simp)
      (try simp only [Act.put, sA, s0, s1])
      refine tk 12 (.string s.nm) rfl (Or.inl ⟨by kernel_rfl, ?_⟩) (by assumption) ?_
      · (intro w hSw; (try dsimp only at hSw); go_simp; try with_reducible rfl; try simp)
      (try simp only [Act.put, sA, s0, s1])
      refine tk 14 (.pointer (some ⟨w.heap.size, 4, none⟩)) rfl (Or.inl ⟨by kernel_rfl, ?_⟩) (by assumption) ?_
      · (intro w hSw; (try dsimp only at hSw); go_simp; try with_reducible rfl; try simp)
      (try simp only [Act.put, sA, s0, s1])
      refine tk 15 (.string s.nm) rfl (Or.inl ⟨by kernel_rfl, ?_⟩) (by assumption) ?_
      · (intro w hSw; (try dsimp only at hSw); go_simp; try with_reducible rfl; try simp)
      (try simp only [Act.put, sA, s0, s1])
      refine wpAnyT_step (i := 13) (by kernel_rfl) rfl (fun K hK => ?_)
      (go_simp; go_at_call 64; refine (HcU2.out _).mono ?_; rintro e w6 ⟨rfl, hb6⟩; (try go_wp2_with fail))
      refine hK.out _ _ ?_ (fun hHeld => ?_)
      · exact ⟨cell_keep hb6 (cell_keep hb5 x0), cell_keep hb6 (cell_keep hb5 x4), cell_keep hb6 (cell_keep hb5 x18), Cells.keep (Cells.keep xr hb5) hb6⟩
      clear hK K
      (try simp only [Act.put, sA, s0, s1])
      cases q3
      · refine tk 16 (.bool false) rfl (Or.inl ⟨by kernel_rfl, ?_⟩) (by assumption) ?_
        · (intro w hSw; (try dsimp only at hSw); go_simp; try with_reducible rfl; try simp [hue])
        (try simp only [Act.put, sA, s0, s1])
        refine tk 17 (.bool false) rfl (Or.inl ⟨by kernel_rfl, ?_⟩) (by assumption) ?_
        · (intro w hSw; (try dsimp only at hSw); go_simp; try with_reducible rfl; try simp)
        (try simp only [Act.put, sA, s0, s1])
        refine tk 18 (.bool false) rfl (Or.inl ⟨by kernel_rfl, ?_⟩) (by assumption) ?_
        · (intro w hSw; (try dsimp only at hSw); go_simp; try with_reducible rfl; try simp)
        (try simp only [Act.put, sA, s0, s1])
        refine tk 19 undef rfl (Or.inr ⟨by kernel_rfl, rfl⟩) (by assumption) ?_
        (try simp only [Act.put, sA, s0, s1])
        refine tk 20 undef rfl (Or.inr ⟨by kernel_rfl, rfl⟩) (by assumption) ?_
        (try simp only [Act.put, sA, s0, s1])
        refine tk 21 undef rfl (Or.inr ⟨by kernel_rfl, rfl⟩) (by assumption) ?_
        (try simp only [Act.put, sA, s0, s1])
        refine tk 22 undef rfl (Or.inr ⟨by kernel_rfl, rfl⟩) (by assumption) ?_
        (try simp only [Act.put, sA, s0, s1])
        refine tk 23 undef rfl (Or.inr ⟨by kernel_rfl, rfl⟩) (by assumption) ?_
        (try simp only [Act.put, sA, s0, s1])
        refine tk 24 (.bool false) rfl (Or.inl ⟨by kernel_rfl, ?_⟩) (by assumption) ?_
        · (intro w hSw; (try dsimp only at hSw); go_simp; try with_reducible rfl; try simp)
        (try simp only [Act.put, sA, s0, s1])
        refine wpAnyT_step (i := 25) (by kernel_rfl) rfl (fun K hK => ?_)
        go_simp
        refine hK.out _ _ ?_ (fun hHeld => ?_)
        · exact ⟨cell_keep hb6 (cell_keep hb5 x0), cell_keep hb6 (cell_keep hb5 x4), cell_keep hb6 (cell_keep hb5 x18), Cells.keep (Cells.keep xr hb5) hb6⟩
        clear hK K
        (try simp only [Act.put, sA, s0, s1])
        refine wpAnyT_done (by kernel_rfl) ?_ _
        refine NoPanic.normal ?_
        all_goals (
          go_wp2_with fail
          go_ret
          exact ⟨by rw [← Hv2.out]; rfl, Hb4.out.trans (((below_d hb5).trans (hb6.mono (below_d hb5).size)).mono Hb4.out.size)⟩)
      · refine tk 16 (.bool true) rfl (Or.inl ⟨by kernel_rfl, ?_⟩) (by assumption) ?_
        · (intro w hSw; (try dsimp only at hSw); go_simp; try with_reducible rfl; try simp [hue])
        (try simp only [Act.put, sA, s0, s1])
        refine tk 17 (.bool true) rfl (Or.inl ⟨by kernel_rfl, ?_⟩) (by assumption) ?_
        · (intro w hSw; (try dsimp only at hSw); go_simp; try with_reducible rfl; try simp)
        (try simp only [Act.put, sA, s0, s1])
        refine tk 18 (.bool true) rfl (Or.inl ⟨by kernel_rfl, ?_⟩) (by assumption) ?_
        · (intro w hSw; (try dsimp only at hSw); go_simp; try with_reducible rfl; try simp)
        (try simp only [Act.put, sA, s0, s1])
        refine tk 19 (.pointer (some ⟨w.heap.size, 18, none⟩)) rfl (Or.inl ⟨by kernel_rfl, ?_⟩) (by assumption) ?_
        · (intro w hSw; (try dsimp only at hSw); go_simp; try with_reducible rfl; try simp)
        (try simp only [Act.put, sA, s0, s1])
        refine tk 20 (.slice p n m) rfl (Or.inl ⟨by kernel_rfl, ?_⟩) (by assumption) ?_
        · (intro w hSw; (try dsimp only at hSw); go_simp; try with_reducible rfl; try simp)
        (try simp only [Act.put, sA, s0, s1])
        refine tk 21 (.int .i64 d) rfl (Or.inl ⟨by kernel_rfl, ?_⟩) (by assumption) ?_
        · (intro w hSw; (try dsimp only at hSw); go_simp; try with_reducible rfl; try simp)
        (try simp only [Act.put, sA, s0, s1])
        refine tk 22 (.int .i64 (d + 1)) rfl (Or.inl ⟨by kernel_rfl, ?_⟩) (by assumption) ?_
        · (intro w hSw; (try dsimp only at hSw); go_simp; (try with_reducible rfl); exact Hwr.out)
        (try simp only [Act.put, sA, s0, s1])
        refine wpAnyT_step (i := 23) (by kernel_rfl) rfl (fun K hK => ?_)
        (go_simp; go_at_call 124; refine (HcA2.out _ (later_below (later_below Hl4.out hb5) hb6)).mono ?_; rintro e w7 ⟨rfl, hb7⟩; (try go_wp2_with fail))
        refine hK.out _ _ ?_ (fun hHeld => ?_)
        · exact ⟨cell_keep hb7 (cell_keep hb6 (cell_keep hb5 x0)), cell_keep hb7 (cell_keep hb6 (cell_keep hb5 x4)), cell_keep hb7 (cell_keep hb6 (cell_keep hb5 x18)), Cells.keep (Cells.keep (Cells.keep xr hb5) hb6) hb7⟩
        clear hK K
        (try simp only [Act.put, sA, s0, s1])
        cases q4
        all_goals (
          refine tk 24 ?_ rfl (Or.inl ⟨by kernel_rfl, ?_⟩) (by assumption) ?_
          rotate_left; · (intro w hSw; (try dsimp only at hSw); go_simp; try with_reducible rfl)
          (try simp only [Act.put, sA, s0, s1])
          refine wpAnyT_step (i := 25) (by kernel_rfl) rfl (fun K hK => ?_)
          go_simp
          refine hK.out _ _ ?_ (fun hHeld => ?_)
          · exact ⟨cell_keep hb7 (cell_keep hb6 (cell_keep hb5 x0)), cell_keep hb7 (cell_keep hb6 (cell_keep hb5 x4)), cell_keep hb7 (cell_keep hb6 (cell_keep hb5 x18)), Cells.keep (Cells.keep (Cells.keep xr hb5) hb6) hb7⟩
          clear hK K
          (try simp only [Act.put, sA, s0, s1])
          refine wpAnyT_done (by kernel_rfl) ?_ _
          refine NoPanic.normal ?_
          all_goals (
            go_wp2_with fail
            go_ret
            exact ⟨by rw [← Hv2.out]; rfl, Hb4.out.trans ((((below_d hb5).trans (hb6.mono (below_d hb5).size)).trans (hb7.mono ((below_d hb5).trans (hb6.mono (below_d hb5).size)).size)).mono Hb4.out.size)⟩))
end Go.Proofs.YtkeibmkcgnppeaaGreatDoor

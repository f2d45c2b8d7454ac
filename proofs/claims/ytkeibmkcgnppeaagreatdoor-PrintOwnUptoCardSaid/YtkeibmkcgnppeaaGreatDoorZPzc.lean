/- The writer s term at an operator between two operands. -/
import Derived.Test.YtkeibmkcgnppeaaGreatDoorZPzb
set_option maxHeartbeats 32000000
set_option linter.unusedSimpArgs false
set_option linter.unusedVariables false
namespace Go.Proofs.YtkeibmkcgnppeaaGreatDoor
open Go Go.RowKit
set_option maxRecDepth 100000
theorem tout_two {W : World} {t u0 u1 : TermD} (hu0 : t.args[0]? = some u0) (hu1 : t.args[1]? = some u1) {o0 o1 : List UInt8} (hO0 : TermOut W u0 o0) (hO1 : TermOut W u1 o1) {k v0 v1 vo : Int}
    (cV0 : ∀ w, Calls Tryz.prog 83 #[.int .i64 u0.s.op] w fun e w' => e = .returned (.int .i64 v0) ∧ w' = w) (cV1 : ∀ w, Calls Tryz.prog 83 #[.int .i64 u1.s.op] w fun e w' => e = .returned (.int .i64 v1) ∧ w' = w)
    (cVo : ∀ w, Calls Tryz.prog 83 #[.int .i64 k] w fun e w' => e = .returned (.int .i64 vo) ∧ w' = w) {sg : ByteArray} (hsg : sg.size ≤ 2) (cS : ∀ w, Calls Tryz.prog 81 #[.int .i64 k] w fun e w' => e = .returned (.string sg) ∧ Below w.heap.size w w') (h12 : 12 ≤ k) (hop : t.s.op = k) :
    TermOut W t (apartO (decide (v0 < vo)) o0 ++ (sg.data.toList ++ apartO (decide (v1 ≤ vo)) o1)) := by
  intro x hx B b l w hB hBw h hl hw
  have hs := hx.s
  have HB := Lib.hid hB
  have Hl := Lib.hid hl
  have Hw := Lib.hid hw
  have hbl := WrIs.lt h
  have hn0 : 0 < x.n := by rw [hx.n]; exact (List.getElem?_eq_some_iff.1 hu0).1
  have hn1 : 1 < x.n := by rw [hx.n]; exact (List.getElem?_eq_some_iff.1 hu1).1
  have hn1i : (1 : Int) < (x.n : Int) := by omega
  obtain ⟨g, q, y, hpo, hy, hcl⟩ := hx.kid_u hu0
  obtain ⟨g', q', z, hpo', hz, hcl'⟩ := hx.kid_u hu1
  have hpp := hpo.symm.trans hpo'
  simp only [Option.some.injEq, Addr.mk.injEq] at hpp
  obtain ⟨rfl, rfl, -⟩ := hpp
  clear hpo'
  have hgW : g < W.heap.size := World.block_lt_of_cell? W _ ((hcl W ⟨Nat.le_refl _, fun _ _ => rfl⟩) 0 _ rfl)
  have hys := hy.s
  have hzs := hz.s
  rw [hys] at cV0
  rw [hzs] at cV1
  have HcV0 := Lib.hid cV0
  have HcV1 := Lib.hid cV1
  have HcVo := Lib.hid cVo
  have HcS := Lib.hid cS
  have Hcl := Lib.hid hcl
  have Hcl' := Lib.hid hcl'
  have Hy := Lib.hid hy
  have Hz := Lib.hid hz
  have HgW := Lib.hid hgW
  have HO0 := Lib.hid hO0
  have HO1 := Lib.hid hO1
  obtain ⟨ap, hap⟩ : ∃ ap, decide (v0 < vo) = ap := ⟨_, rfl⟩
  obtain ⟨ar, har⟩ : ∃ ar, decide (v1 ≤ vo) = ar := ⟨_, rfl⟩
  rw [hap, har]
  clear cV0 cV1 cVo cS hcl hcl' hy hz hgW hys hzs hO0 hO1 hu0 hu1
  have f1 : (k == (1 : Int)) = false := by rw [beq_eq_false_iff_ne]; omega
  have f2 : (k == (2 : Int)) = false := by rw [beq_eq_false_iff_ne]; omega
  have f3 : (k == (3 : Int)) = false := by rw [beq_eq_false_iff_ne]; omega
  have f4 : (k == (4 : Int)) = false := by rw [beq_eq_false_iff_ne]; omega
  have f5 : (k == (5 : Int)) = false := by rw [beq_eq_false_iff_ne]; omega
  have f6 : (k == (6 : Int)) = false := by rw [beq_eq_false_iff_ne]; omega
  have f7 : (k == (7 : Int)) = false := by rw [beq_eq_false_iff_ne]; omega
  have f8 : (k == (8 : Int)) = false := by rw [beq_eq_false_iff_ne]; omega
  have f9 : (k == (9 : Int)) = false := by rw [beq_eq_false_iff_ne]; omega
  have f10 : (k == (10 : Int)) = false := by rw [beq_eq_false_iff_ne]; omega
  have f11 : (k == (11 : Int)) = false := by rw [beq_eq_false_iff_ne]; omega
  obtain ⟨s, p, n, m⟩ := x
  simp only at hs hpo hn0 hn1 hn1i ⊢
  subst hpo
  subst hs
  have hA1 := Scal.arr_size t.s (.slice (some ⟨g, q, none⟩) n m)
  go_enter Tryz.func37, Tryz.ntmps37
  go_upto_region 1 with fail
  generalize hW1 : World.alloc w _ = W1
  have hbc : Below B w W1 := by rw [← hW1]; exact (Below.refl _ _).alloc hBw _
  have hC : W1.heap[w.heap.size]? = some (.cells (t.s.row (.slice (some ⟨g, q, none⟩) n m)).toArray 29 (0, 0)) := by rw [← hW1]; exact heap_alloc_new _ _
  have h1 : WrIs B b l W1 := by rw [← hW1]; exact WrIs.alloc h _
  have hk1 : Lib.OthersKept 5 (some b) w W1 := by rw [← hW1]; exact (Lib.OthersKept.refl _ _ _).alloc _
  have hlc : Ck.Later W W1 := later_B hw hB hbc
  have HX := Lib.hid hx
  clear hW1 h hx hB hl hw
  obtain ⟨x0, x1, x2, x3, x4, x5, x6, x7, x8, x9, x10, x11, x12, x13, x14, x15, x16, x17, x18⟩ := block_all hC
  rw [hop] at x0
  have Hop := Lib.hid hop
  have HC := Lib.hid hC
  have Hbc := Lib.hid hbc
  have H1 := Lib.hid h1
  have Hk1 := Lib.hid hk1
  have Hlc := Lib.hid hlc
  have hne : w.heap.size ≠ b := by omega
  have hs1 := hbc.size
  have hB1 := Nat.le_trans hBw hs1
  clear hop hC hbc h1 hk1 hlc
  clear x1 x2 x3 x4 x5 x6 x7 x8 x9 x10 x11 x12 x13 x14 x15 x16 x17
  have hA3 := Scal.arr_size y.s y.v
  have hA4 := Scal.arr_size z.s z.v
  have hC := Hcl.out W1 Hlc.out
  rw [Nat.zero_mul, Nat.add_zero] at hC
  have y18 : W1.drew.cell? _ = _ := x18
  have y0 : W1.drew.cell? _ = _ := x0
  have yc : W1.drew.cell? ⟨g, q, none⟩ = some (.int .i64 y.s.op) := hC 0 _ rfl
  have yr : Cells W1.drew g q y.s y.v := hC
  clear hC
  go_wp2_with fail
  refine wp_region_tail (S := fun w' => w'.cell? ⟨w.heap.size, 18, none⟩ = some (.slice (some ⟨g, q, none⟩) n m) ∧ w'.cell? ⟨g, q, none⟩ = some (.int .i64 y.s.op) ∧ w'.rangeAt g (q) (y.s.row y.v) ∧ w'.cell? ⟨w.heap.size, 0, none⟩ = some (.int .i64 k)) (tail := (fun _ => false)) (by kernel_rfl) ⟨y18, yc, yr, y0⟩ (fun hHeld => ?_)
  refine tk 0 ?_ rfl (Or.inl ⟨by rfl, ?_⟩) (by assumption) ?_
  rotate_left; · (intro w hSw; (try dsimp only at hSw); go_simp; try with_reducible rfl)
  (try simp only [Act.put, sA, s0, s1])
  refine tk 1 ?_ rfl (Or.inl ⟨by rfl, ?_⟩) (by assumption) ?_
  rotate_left; · (intro w hSw; (try dsimp only at hSw); go_simp; try with_reducible rfl)
  (try simp only [Act.put, sA, s0, s1])
  refine tk 2 ?_ rfl (Or.inl ⟨by rfl, ?_⟩) (by assumption) ?_
  rotate_left; · (intro w hSw; (try dsimp only at hSw); go_simp; try with_reducible rfl)
  (try simp only [Act.put, sA, s0, s1])
  refine tk 3 ?_ rfl (Or.inl ⟨by rfl, ?_⟩) (by assumption) ?_
  rotate_left; · (intro w hSw; (try dsimp only at hSw); go_simp; try with_reducible rfl)
  (try simp only [Act.put, sA, s0, s1])
  refine tk 4 _ rfl ((yieldsIf_load_mid (by rfl) 29 _ rfl g (q) rfl (y.s.row y.v) _ (fun w hSw => hSw.2.2.1) Tryz.underlying29 rfl size29)) (by assumption) ?_
  (try simp only [Act.put, sA, s0, s1])
  refine tk 5 ?_ rfl (Or.inl ⟨by rfl, ?_⟩) (by assumption) ?_
  rotate_left; · (intro w hSw; (try dsimp only at hSw); go_simp; try with_reducible rfl)
  (try simp only [Act.put, sA, s0, s1])
  refine tk 6 ?_ rfl (Or.inl ⟨by rfl, ?_⟩) (by assumption) ?_
  rotate_left; · (intro w hSw; (try dsimp only at hSw); go_simp; try with_reducible rfl)
  (try simp only [Act.put, sA, s0, s1])
  refine tk 7 ?_ rfl (Or.inl ⟨by rfl, ?_⟩) (by assumption) ?_
  rotate_left; · (intro w hSw; (try dsimp only at hSw); go_simp; try with_reducible rfl)
  (try simp only [Act.put, sA, s0, s1])
  refine tk 8 ?_ rfl (Or.inl ⟨by rfl, ?_⟩) (by assumption) ?_
  rotate_left; · (intro w hSw; (try dsimp only at hSw); go_simp; try with_reducible rfl)
  (try simp only [Act.put, sA, s0, s1])
  refine tk 9 ?_ rfl (Or.inl ⟨by rfl, ?_⟩) (by assumption) ?_
  rotate_left; · (intro w hSw; (try dsimp only at hSw); go_simp; try with_reducible rfl)
  (try simp only [Act.put, sA, s0, s1])
  refine tk 11 ?_ rfl (Or.inl ⟨by rfl, ?_⟩) (by assumption) ?_
  rotate_left; · (intro w hSw; (try dsimp only at hSw); go_simp; try with_reducible rfl)
  (try simp only [Act.put, sA, s0, s1])
  refine tk 12 ?_ rfl (Or.inl ⟨by rfl, ?_⟩) (by assumption) ?_
  rotate_left; · (intro w hSw; (try dsimp only at hSw); go_simp; try with_reducible rfl)
  (try simp only [Act.put, sA, s0, s1])
  refine wpAnyT_step (i := 10) (by kernel_rfl) rfl (fun K hK => ?_)
  (go_simp; go_at_call 83; refine (HcV0.out _).mono ?_; rintro e w9 ⟨rfl, hw9⟩; rw [hw9]; clear hw9; (try go_wp2_with fail))
  refine hK.out _ _ ?_ (fun hHeld => ?_)
  · exact hHeld
  clear hK K
  (try simp only [Act.put, sA, s0, s1])
  refine wpAnyT_step (i := 13) (by kernel_rfl) rfl (fun K hK => ?_)
  (go_simp; go_at_call 83; refine (HcVo.out _).mono ?_; rintro e w9 ⟨rfl, hw9⟩; rw [hw9]; clear hw9; (try go_wp2_with fail))
  refine hK.out _ _ ?_ (fun hHeld => ?_)
  · exact hHeld
  clear hK K
  (try simp only [Act.put, sA, s0, s1])
  refine tk 14 ?_ rfl (Or.inl ⟨by rfl, ?_⟩) (by assumption) ?_
  rotate_left; · (intro w hSw; (try dsimp only at hSw); go_simp; try with_reducible rfl)
  (try simp only [Act.put, sA, s0, s1])
  refine wpAnyT_step (i := 15) (by kernel_rfl) rfl (fun K hK => ?_)
  (go_simp; go_at_call 82; refine (wop_call HO0.out Hy.out B b l W1.drew HB.out hB1 (wr_same H1.out (fun _ _ => rfl)) Hl.out (show Ck.Later W W1.drew from Hlc.out) _).mono ?_; rintro e w6 (⟨a6, rfl, h6, hb6, hk6⟩ | ⟨a6, rfl, hb6⟩))
  rotate_left
  · dsimp only
    exact ⟨rfl, WrPost.from Hbc.out Hk1.out (WrPost.more (o1 := apartO _ o0) ⟨a6, rfl, below_dB hb6⟩)⟩
  dsimp only
  have lg := Nat.lt_of_lt_of_le HgW.out HB.out
  have HC6 := Lib.hid (box_kept hk6 (show W1.drew.heap[w.heap.size]? = _ from HC.out) hne)
  refine hK.out _ _ ?_ (fun hHeld => ?_)
  · exact ⟨block18 HC6.out, (hb6.cell (show g < B from lg)).trans yc, Cells.below yr (hb6.block g lg), by have := (block_all HC6.out).1; rw [Hop.out] at this; exact this⟩
  clear hK K
  (try simp only [Act.put, sA, s0, s1])
  refine wpAnyT_done (by kernel_rfl) ?_ _
  have x06 : w6.cell? ⟨w.heap.size, 0, none⟩ = some (.int .i64 k) := by have := (block_all HC6.out).1; rw [Hop.out] at this; exact this
  have hl6 := later_B Hlc.out HB.out (below_dB hb6)
  have Hl6 := Lib.hid hl6
  have hB6 := Nat.le_trans hB1 hb6.size
  clear hl6
  go_upto_region 4 with (first
    | (go_at_call 75; refine (put_call B b (l ++ apartO ap o0) sg w7 (WrIs.keep h6 hb7) (by rw [List.length_append]; exact a6) (by omega) (Nat.le_trans hB6 hb7.size)).mono ?_; rintro e w8 (⟨a8, rfl, h8, hb8, hk8⟩ | ⟨a8, rfl, hb8⟩))
    | (go_at_call 81; refine (HcS.out w6).mono ?_; rintro e w7 ⟨rfl, hb7⟩))
  rotate_left
  · exact ⟨rfl, WrPost.from Hbc.out Hk1.out (WrPost.next (o1 := apartO ap o0) a6 (below_dB hb6) hk6 (WrPost.quiet hB6 hb7 (WrPost.more ⟨a8, rfl, hb8⟩)))⟩
  have HC8 := Lib.hid (box_kept hk8 ((hb7.block _ (lt_of_some HC6.out)).trans HC6.out) hne)
  have hl8 := later_B (later_below Hl6.out hb7) HB.out hb8
  have hC8 := Hcl'.out w8 hl8
  rw [Nat.one_mul] at hC8
  have y18 : w8.drew.cell? _ = _ := block18 HC8.out
  have y0 : w8.drew.cell? ⟨w.heap.size, 0, none⟩ = some (.int .i64 k) := by have := (block_all HC8.out).1; rw [Hop.out] at this; exact this
  have yc : w8.drew.cell? ⟨g, q + 19, none⟩ = some (.int .i64 z.s.op) := hC8 0 _ rfl
  have yr : Cells w8.drew g (q + 19) z.s z.v := hC8
  have Hl8 := Lib.hid hl8
  have hB8 := Nat.le_trans hB6 (Nat.le_trans hb7.size hb8.size)
  clear hC8 hl8
  refine wp_region_tail (S := fun w' => w'.cell? ⟨w.heap.size, 18, none⟩ = some (.slice (some ⟨g, q, none⟩) n m) ∧ w'.cell? ⟨g, q + 19, none⟩ = some (.int .i64 z.s.op) ∧ w'.rangeAt g (q + 19) (z.s.row z.v) ∧ w'.cell? ⟨w.heap.size, 0, none⟩ = some (.int .i64 k)) (tail := (fun _ => false)) (by kernel_rfl) ⟨y18, yc, yr, y0⟩ (fun hHeld => ?_)
  refine tk 0 ?_ rfl (Or.inl ⟨by rfl, ?_⟩) (by assumption) ?_
  rotate_left; · (intro w hSw; (try dsimp only at hSw); go_simp; try with_reducible rfl)
  (try simp only [Act.put, sA, s0, s1])
  refine tk 1 ?_ rfl (Or.inl ⟨by rfl, ?_⟩) (by assumption) ?_
  rotate_left; · (intro w hSw; (try dsimp only at hSw); go_simp; try with_reducible rfl)
  (try simp only [Act.put, sA, s0, s1])
  refine tk 2 ?_ rfl (Or.inl ⟨by rfl, ?_⟩) (by assumption) ?_
  rotate_left; · (intro w hSw; (try dsimp only at hSw); go_simp; try with_reducible rfl)
  (try simp only [Act.put, sA, s0, s1])
  refine tk 3 ?_ rfl (Or.inl ⟨by rfl, ?_⟩) (by assumption) ?_
  rotate_left; · (intro w hSw; (try dsimp only at hSw); go_simp; try with_reducible rfl)
  (try simp only [Act.put, sA, s0, s1])
  refine tk 4 _ rfl ((yieldsIf_load_mid (by rfl) 29 _ rfl g (q + 19) rfl (z.s.row z.v) _ (fun w hSw => hSw.2.2.1) Tryz.underlying29 rfl size29)) (by assumption) ?_
  (try simp only [Act.put, sA, s0, s1])
  refine tk 5 ?_ rfl (Or.inl ⟨by rfl, ?_⟩) (by assumption) ?_
  rotate_left; · (intro w hSw; (try dsimp only at hSw); go_simp; try with_reducible rfl)
  (try simp only [Act.put, sA, s0, s1])
  refine tk 6 ?_ rfl (Or.inl ⟨by rfl, ?_⟩) (by assumption) ?_
  rotate_left; · (intro w hSw; (try dsimp only at hSw); go_simp; try with_reducible rfl)
  (try simp only [Act.put, sA, s0, s1])
  refine tk 7 ?_ rfl (Or.inl ⟨by rfl, ?_⟩) (by assumption) ?_
  rotate_left; · (intro w hSw; (try dsimp only at hSw); go_simp; try with_reducible rfl)
  (try simp only [Act.put, sA, s0, s1])
  refine tk 8 ?_ rfl (Or.inl ⟨by rfl, ?_⟩) (by assumption) ?_
  rotate_left; · (intro w hSw; (try dsimp only at hSw); go_simp; try with_reducible rfl)
  (try simp only [Act.put, sA, s0, s1])
  refine tk 9 ?_ rfl (Or.inl ⟨by rfl, ?_⟩) (by assumption) ?_
  rotate_left; · (intro w hSw; (try dsimp only at hSw); go_simp; try with_reducible rfl)
  (try simp only [Act.put, sA, s0, s1])
  refine tk 11 ?_ rfl (Or.inl ⟨by rfl, ?_⟩) (by assumption) ?_
  rotate_left; · (intro w hSw; (try dsimp only at hSw); go_simp; try with_reducible rfl)
  (try simp only [Act.put, sA, s0, s1])
  refine tk 12 ?_ rfl (Or.inl ⟨by rfl, ?_⟩) (by assumption) ?_
  rotate_left; · (intro w hSw; (try dsimp only at hSw); go_simp; try with_reducible rfl)
  (try simp only [Act.put, sA, s0, s1])
  refine wpAnyT_step (i := 10) (by kernel_rfl) rfl (fun K hK => ?_)
  (go_simp; go_at_call 83; refine (HcV1.out _).mono ?_; rintro e w9 ⟨rfl, hw9⟩; rw [hw9]; clear hw9; (try go_wp2_with fail))
  refine hK.out _ _ ?_ (fun hHeld => ?_)
  · exact hHeld
  clear hK K
  (try simp only [Act.put, sA, s0, s1])
  refine wpAnyT_step (i := 13) (by kernel_rfl) rfl (fun K hK => ?_)
  (go_simp; go_at_call 83; refine (HcVo.out _).mono ?_; rintro e w9 ⟨rfl, hw9⟩; rw [hw9]; clear hw9; (try go_wp2_with fail))
  refine hK.out _ _ ?_ (fun hHeld => ?_)
  · exact hHeld
  clear hK K
  (try simp only [Act.put, sA, s0, s1])
  refine tk 14 ?_ rfl (Or.inl ⟨by rfl, ?_⟩) (by assumption) ?_
  rotate_left; · (intro w hSw; (try dsimp only at hSw); go_simp; try with_reducible rfl)
  (try simp only [Act.put, sA, s0, s1])
  refine wpAnyT_step (i := 15) (by kernel_rfl) rfl (fun K hK => ?_)
  (go_simp; go_at_call 82; refine (wop_call HO1.out Hz.out B b ((l ++ apartO ap o0) ++ sg.data.toList) w8.drew HB.out hB8 (wr_same h8 (fun _ _ => rfl)) (by rw [List.length_append]; exact a8) (show Ck.Later W w8.drew from Hl8.out) _).mono ?_; rintro e w9 (⟨a9, rfl, h9, hb9, hk9⟩ | ⟨a9, rfl, hb9⟩))
  rotate_left
  · dsimp only
    exact ⟨rfl, WrPost.from Hbc.out Hk1.out (WrPost.next (o1 := apartO ap o0) a6 (below_dB hb6) hk6 (WrPost.quiet hB6 hb7 (WrPost.next a8 hb8 hk8 (o2 := apartO _ o1) (.inr ⟨a9, rfl, below_dB hb9⟩))))⟩
  dsimp only
  refine hK.out _ _ ?_ (fun hHeld => ?_)
  · exact ⟨block18 (box_kept hk9 (show w8.drew.heap[w.heap.size]? = _ from HC8.out) hne), (hb9.cell (show g < B from lg)).trans yc, Cells.below yr (hb9.block g lg), by have := (block_all (box_kept hk9 (show w8.drew.heap[w.heap.size]? = _ from HC8.out) hne)).1; rw [Hop.out] at this; exact this⟩
  clear hK K
  (try simp only [Act.put, sA, s0, s1])
  refine wpAnyT_done (by kernel_rfl) ?_ _
  go_wp2_with fail
  go_end0
  exact WrPost.from Hbc.out Hk1.out (WrPost.next (o1 := apartO ap o0) a6 (below_dB hb6) hk6 (WrPost.quiet hB6 hb7 (WrPost.next a8 hb8 hk8 (o2 := apartO _ o1) (.inl ⟨a9, rfl, h9, below_dB hb9, hk9⟩))))
end Go.Proofs.YtkeibmkcgnppeaaGreatDoor

/- The writer s term at signs ahead and behind. -/
import Derived.Test.YtkeibmkcgnppeaaGreatDoorZPz
set_option maxHeartbeats 32000000
set_option linter.unusedSimpArgs false
set_option linter.unusedVariables false
namespace Go.Proofs.YtkeibmkcgnppeaaGreatDoor
open Go Go.RowKit
set_option maxRecDepth 100000
def apartO (b : Bool) (o : List UInt8) : List UInt8 := if b then [40] ++ (o ++ [41]) else o
theorem below_dB {B : Nat} {w w' : World} (h : Below B w.drew w') : Below B w w' := ⟨h.os, h.tape, h.output, h.size, h.block⟩
theorem RV.Is.kid_u {W : World} {x : RV} {t u : TermD} (h : x.Is W t) {j : Nat} (hu : t.args[j]? = some u) : ∃ b o y, x.p = some ⟨b, o, none⟩ ∧ RV.Is W y u ∧ ∀ w, Ck.Later W w → Cells w b (o + j * 19) y.s y.v := by
  obtain ⟨hj, e⟩ := List.getElem?_eq_some_iff.1 hu
  obtain ⟨b, o, y, h1, h2, h3⟩ := h.kid hj
  rw [e] at h2
  exact ⟨b, o, y, h1, h2, h3⟩
theorem tout_11 {W : World} {t u : TermD} (hu : t.args[0]? = some u) {o : List UInt8} (hO : TermOut W u o) {v : Int} (cV : ∀ w, Calls Tryz.prog 83 #[.int .i64 u.s.op] w fun e w' => e = .returned (.int .i64 v) ∧ w' = w) (hop : t.s.op = 11) : TermOut W t (apartO (decide (v < 6)) o ++ [37]) := by
  intro x hx B b l w hB hBw h hl hw
  have hs := hx.s
  have HB := Lib.hid hB
  have Hl := Lib.hid hl
  have Hw := Lib.hid hw
  have hbl := WrIs.lt h
  have hn0 : 0 < x.n := by rw [hx.n]; exact (List.getElem?_eq_some_iff.1 hu).1
  obtain ⟨g, q, y, hpo, hy, hcl⟩ := hx.kid_u hu
  have hC0 := hcl w hw
  have hgW : g < W.heap.size := World.block_lt_of_cell? W _ ((hcl W ⟨Nat.le_refl _, fun _ _ => rfl⟩) 0 _ rfl)
  have hys := hy.s
  rw [hys] at cV
  have HcV := Lib.hid cV
  have Hcl := Lib.hid hcl
  have Hy := Lib.hid hy
  have HgW := Lib.hid hgW
  have HO := Lib.hid hO
  obtain ⟨ap, hap⟩ : ∃ ap, decide (v < 6) = ap := ⟨_, rfl⟩
  rw [hap]
  clear cV hcl hC0 hy hgW hys hO hu
  obtain ⟨s, p, n, m⟩ := x
  simp only at hs hpo hn0 ⊢
  subst hpo
  subst hs
  have hA1 := Scal.arr_size t.s (.slice (some ⟨g, q, none⟩) n m)
  go_enter Tryz.func37, Tryz.ntmps37
  go_upto_region 1 with fail
  generalize hW1 : World.alloc w _ = W1
  have hbc : Below B w W1 := by rw [← hW1]; exact (Below.refl _ _).alloc hBw _
  have hC : W1.heap[w.heap.size]? = some (.cells (t.s.row (.slice (some ⟨g, q, none⟩) n m)).toArray 29 (0, 0)) := by rw [← hW1]; exact heap_alloc_new _ _
  have h1 : WrIs B b l W1 := by rw [← hW1]; exact WrIs.alloc h _
  have hk1 : Lib.OthersKept 5 (some b) w W1 := by rw [← hW1]; exact (Lib.OthersKept.refl _ _ _).alloc _
  have hlc : Ck.Later W W1 := later_B hw hB hbc
  have HX := Lib.hid hx
  clear hW1 h hx hB hl hw
  obtain ⟨x0, x1, x2, x3, x4, x5, x6, x7, x8, x9, x10, x11, x12, x13, x14, x15, x16, x17, x18⟩ := block_all hC
  rw [hop] at x0
  have Hop := Lib.hid hop
  have HC := Lib.hid hC
  have Hbc := Lib.hid hbc
  have H1 := Lib.hid h1
  have Hk1 := Lib.hid hk1
  have Hlc := Lib.hid hlc
  have hne : w.heap.size ≠ b := by omega
  have hs1 := hbc.size
  have hB1 := Nat.le_trans hBw hs1
  clear hop hC hbc h1 hk1 hlc
  clear x1 x2 x3 x4 x5 x6 x7 x8 x9 x10 x11 x12 x13 x14 x15 x16 x17
  have hA3 := Scal.arr_size y.s y.v
  have hC := Hcl.out W1 Hlc.out
  rw [Nat.zero_mul, Nat.add_zero] at hC
  have c0 : W1.cell? ⟨g, q, none⟩ = some (.int .i64 y.s.op) := hC 0 _ rfl
  have HC2 := Lib.hid hC
  have y18 : W1.drew.cell? _ = _ := x18
  have yc : W1.drew.cell? _ = _ := c0
  have yr : Cells W1.drew g q y.s y.v := hC
  clear hC
  cases ap
  all_goals (
    go_wp2_with fail
    refine wp_region_tail (S := fun w' => w'.cell? ⟨w.heap.size, 18, none⟩ = some (.slice (some ⟨g, q, none⟩) n m) ∧ w'.cell? ⟨g, q, none⟩ = some (.int .i64 y.s.op) ∧ w'.rangeAt g q (y.s.row y.v)) (tail := (fun _ => false)) (by kernel_rfl) ⟨y18, yc, yr⟩ (fun hHeld => ?_)
    refine tk 0 ?_ rfl (Or.inl ⟨by rfl, ?_⟩) (by assumption) ?_
    rotate_left; · (intro w hSw; (try dsimp only at hSw); go_simp; try with_reducible rfl)
    (try simp only [Act.put, sA, s0, s1])
    refine tk 1 ?_ rfl (Or.inl ⟨by rfl, ?_⟩) (by assumption) ?_
    rotate_left; · (intro w hSw; (try dsimp only at hSw); go_simp; try with_reducible rfl)
    (try simp only [Act.put, sA, s0, s1])
    refine tk 2 ?_ rfl (Or.inl ⟨by rfl, ?_⟩) (by assumption) ?_
    rotate_left; · (intro w hSw; (try dsimp only at hSw); go_simp; try with_reducible rfl)
    (try simp only [Act.put, sA, s0, s1])
    refine tk 3 ?_ rfl (Or.inl ⟨by rfl, ?_⟩) (by assumption) ?_
    rotate_left; · (intro w hSw; (try dsimp only at hSw); go_simp; try with_reducible rfl)
    (try simp only [Act.put, sA, s0, s1])
    refine tk 4 _ rfl ((yieldsIf_load_mid (by rfl) 29 _ rfl g q rfl (y.s.row y.v) _ (fun w hSw => hSw.2.2) Tryz.underlying29 rfl size29)) (by assumption) ?_
    (try simp only [Act.put, sA, s0, s1])
    refine tk 5 ?_ rfl (Or.inl ⟨by rfl, ?_⟩) (by assumption) ?_
    rotate_left; · (intro w hSw; (try dsimp only at hSw); go_simp; try with_reducible rfl)
    (try simp only [Act.put, sA, s0, s1])
    refine tk 6 ?_ rfl (Or.inl ⟨by rfl, ?_⟩) (by assumption) ?_
    rotate_left; · (intro w hSw; (try dsimp only at hSw); go_simp; try with_reducible rfl)
    (try simp only [Act.put, sA, s0, s1])
    refine tk 7 ?_ rfl (Or.inl ⟨by rfl, ?_⟩) (by assumption) ?_
    rotate_left; · (intro w hSw; (try dsimp only at hSw); go_simp; try with_reducible rfl)
    (try simp only [Act.put, sA, s0, s1])
    refine tk 8 ?_ rfl (Or.inl ⟨by rfl, ?_⟩) (by assumption) ?_
    rotate_left; · (intro w hSw; (try dsimp only at hSw); go_simp; try with_reducible rfl)
    (try simp only [Act.put, sA, s0, s1])
    refine tk 9 ?_ rfl (Or.inl ⟨by rfl, ?_⟩) (by assumption) ?_
    rotate_left; · (intro w hSw; (try dsimp only at hSw); go_simp; try with_reducible rfl)
    (try simp only [Act.put, sA, s0, s1])
    refine wpAnyT_step (i := 10) (by kernel_rfl) rfl (fun K hK => ?_)
    (go_simp; go_at_call 83; refine (HcV.out _).mono ?_; rintro e w9 ⟨rfl, hw9⟩; rw [hw9]; clear hw9; (try go_wp2_with fail))
    refine hK.out _ _ ?_ (fun hHeld => ?_)
    · exact hHeld
    clear hK K
    (try simp only [Act.put, sA, s0, s1])
    refine tk 11 ?_ rfl (Or.inl ⟨by rfl, ?_⟩) (by assumption) ?_
    rotate_left; · (intro w hSw; (try dsimp only at hSw); go_simp; try with_reducible rfl)
    (try simp only [Act.put, sA, s0, s1])
    refine wpAnyT_step (i := 12) (by kernel_rfl) rfl (fun K hK => ?_)
    (go_simp; go_at_call 82; refine (wop_call HO.out Hy.out B b l W1.drew HB.out hB1 (wr_same H1.out (fun _ _ => rfl)) Hl.out (show Ck.Later W W1.drew from Hlc.out) _).mono ?_; rintro e w6 (⟨a6, rfl, h6, hb6, hk6⟩ | ⟨a6, rfl, hb6⟩))
    · dsimp only
      refine hK.out _ _ ?_ (fun hHeld => ?_)
      · exact ⟨block18 (box_kept hk6 (show W1.drew.heap[w.heap.size]? = _ from HC.out) hne), (hb6.cell (show g < B from Nat.lt_of_lt_of_le HgW.out HB.out)).trans yc, Cells.below yr (hb6.block g (Nat.lt_of_lt_of_le HgW.out HB.out))⟩
      clear hK K
      (try simp only [Act.put, sA, s0, s1])
      refine wpAnyT_done (by kernel_rfl) ?_ _
      go_wp2_with (go_at_call 75; refine (put_call B b _ ⟨#[37]⟩ w6 h6 (by rw [List.length_append]; exact a6) (by decide) (Nat.le_trans hB1 hb6.size)).mono ?_; rintro e w7 (⟨a7, rfl, h7, hb7, hk7⟩ | ⟨a7, rfl, hb7⟩))
      · go_end0
        exact WrPost.from Hbc.out Hk1.out (WrPost.next (o1 := apartO _ o) a6 (below_dB hb6) hk6 (.inl ⟨a7, rfl, h7, hb7, hk7⟩))
      · exact ⟨rfl, WrPost.from Hbc.out Hk1.out (WrPost.next (o1 := apartO _ o) a6 (below_dB hb6) hk6 (.inr ⟨a7, rfl, hb7⟩))⟩
    · dsimp only
      exact ⟨rfl, WrPost.from Hbc.out Hk1.out (WrPost.more (o1 := apartO _ o) ⟨a6, rfl, below_dB hb6⟩)⟩)
theorem tout_9 {W : World} {t u : TermD} (hu : t.args[0]? = some u) {o : List UInt8} (hO : TermOut W u o) {v : Int} (cV : ∀ w, Calls Tryz.prog 83 #[.int .i64 u.s.op] w fun e w' => e = .returned (.int .i64 v) ∧ w' = w) {sg : ByteArray} (hsg : sg.size ≤ 2) (cS : ∀ w, Calls Tryz.prog 81 #[.int .i64 9] w fun e w' => e = .returned (.string sg) ∧ Below w.heap.size w w') (hop : t.s.op = 9) : TermOut W t (sg.data.toList ++ apartO (decide (v < 7)) o) := by
  intro x hx B b l w hB hBw h hl hw
  have hs := hx.s
  have HB := Lib.hid hB
  have Hl := Lib.hid hl
  have Hw := Lib.hid hw
  have hbl := WrIs.lt h
  have hn0 : 0 < x.n := by rw [hx.n]; exact (List.getElem?_eq_some_iff.1 hu).1
  obtain ⟨g, q, y, hpo, hy, hcl⟩ := hx.kid_u hu
  have hC0 := hcl w hw
  have hgW : g < W.heap.size := World.block_lt_of_cell? W _ ((hcl W ⟨Nat.le_refl _, fun _ _ => rfl⟩) 0 _ rfl)
  have hys := hy.s
  rw [hys] at cV
  have HcV := Lib.hid cV
  have HcS := Lib.hid cS
  have Hcl := Lib.hid hcl
  have Hy := Lib.hid hy
  have HgW := Lib.hid hgW
  have HO := Lib.hid hO
  obtain ⟨ap, hap⟩ : ∃ ap, decide (v < 7) = ap := ⟨_, rfl⟩
  rw [hap]
  clear cV cS hcl hC0 hy hgW hys hO hu
  obtain ⟨s, p, n, m⟩ := x
  simp only at hs hpo hn0 ⊢
  subst hpo
  subst hs
  have hA1 := Scal.arr_size t.s (.slice (some ⟨g, q, none⟩) n m)
  go_enter Tryz.func37, Tryz.ntmps37
  go_upto_region 1 with fail
  generalize hW1 : World.alloc w _ = W1
  have hbc : Below B w W1 := by rw [← hW1]; exact (Below.refl _ _).alloc hBw _
  have hC : W1.heap[w.heap.size]? = some (.cells (t.s.row (.slice (some ⟨g, q, none⟩) n m)).toArray 29 (0, 0)) := by rw [← hW1]; exact heap_alloc_new _ _
  have h1 : WrIs B b l W1 := by rw [← hW1]; exact WrIs.alloc h _
  have hk1 : Lib.OthersKept 5 (some b) w W1 := by rw [← hW1]; exact (Lib.OthersKept.refl _ _ _).alloc _
  have hlc : Ck.Later W W1 := later_B hw hB hbc
  have HX := Lib.hid hx
  clear hW1 h hx hB hl hw
  obtain ⟨x0, x1, x2, x3, x4, x5, x6, x7, x8, x9, x10, x11, x12, x13, x14, x15, x16, x17, x18⟩ := block_all hC
  rw [hop] at x0
  have Hop := Lib.hid hop
  have HC := Lib.hid hC
  have Hbc := Lib.hid hbc
  have H1 := Lib.hid h1
  have Hk1 := Lib.hid hk1
  have Hlc := Lib.hid hlc
  have hne : w.heap.size ≠ b := by omega
  have hs1 := hbc.size
  have hB1 := Nat.le_trans hBw hs1
  clear hop hC hbc h1 hk1 hlc
  clear x1 x2 x3 x4 x5 x6 x7 x8 x9 x10 x11 x12 x13 x14 x15 x16 x17 x18
  have hA3 := Scal.arr_size y.s y.v
  go_upto_region 28 with (first
    | (go_at_call 75; refine (put_call B b l sg w2 (WrIs.keep H1.out hb2) Hl.out (by omega) (Nat.le_trans hB1 hb2.size)).mono ?_; rintro e w5 (⟨a5, rfl, h5, hb5, hk5⟩ | ⟨a5, rfl, hb5⟩))
    | (go_at_call 81; refine (HcS.out W1).mono ?_; rintro e w2 ⟨rfl, hb2⟩))
  rotate_left
  · exact ⟨rfl, WrPost.from Hbc.out Hk1.out (WrPost.quiet hB1 hb2 (WrPost.more ⟨a5, rfl, hb5⟩))⟩
  have HC5 := Lib.hid (box_kept hk5 ((hb2.block _ (lt_of_some HC.out)).trans HC.out) hne)
  have hl5 := later_B (later_below Hlc.out hb2) HB.out hb5
  have hC := Hcl.out w5 hl5
  rw [Nat.zero_mul, Nat.add_zero] at hC
  have y18 : w5.drew.cell? _ = _ := block18 HC5.out
  have yc : w5.drew.cell? ⟨g, q, none⟩ = some (.int .i64 y.s.op) := hC 0 _ rfl
  have yr : Cells w5.drew g q y.s y.v := hC
  have Hl5 := Lib.hid hl5
  have hB5 := Nat.le_trans hB1 (Nat.le_trans hb2.size hb5.size)
  clear hC hl5
  cases ap
  all_goals (
    refine wp_region_tail (S := fun w' => w'.cell? ⟨w.heap.size, 18, none⟩ = some (.slice (some ⟨g, q, none⟩) n m) ∧ w'.cell? ⟨g, q, none⟩ = some (.int .i64 y.s.op) ∧ w'.rangeAt g q (y.s.row y.v)) (tail := (fun _ => false)) (by kernel_rfl) ⟨y18, yc, yr⟩ (fun hHeld => ?_)
    refine tk 0 ?_ rfl (Or.inl ⟨by rfl, ?_⟩) (by assumption) ?_
    rotate_left; · (intro w hSw; (try dsimp only at hSw); go_simp; try with_reducible rfl)
    (try simp only [Act.put, sA, s0, s1])
    refine tk 1 ?_ rfl (Or.inl ⟨by rfl, ?_⟩) (by assumption) ?_
    rotate_left; · (intro w hSw; (try dsimp only at hSw); go_simp; try with_reducible rfl)
    (try simp only [Act.put, sA, s0, s1])
    refine tk 2 ?_ rfl (Or.inl ⟨by rfl, ?_⟩) (by assumption) ?_
    rotate_left; · (intro w hSw; (try dsimp only at hSw); go_simp; try with_reducible rfl)
    (try simp only [Act.put, sA, s0, s1])
    refine tk 3 ?_ rfl (Or.inl ⟨by rfl, ?_⟩) (by assumption) ?_
    rotate_left; · (intro w hSw; (try dsimp only at hSw); go_simp; try with_reducible rfl)
    (try simp only [Act.put, sA, s0, s1])
    refine tk 4 _ rfl ((yieldsIf_load_mid (by rfl) 29 _ rfl g q rfl (y.s.row y.v) _ (fun w hSw => hSw.2.2) Tryz.underlying29 rfl size29)) (by assumption) ?_
    (try simp only [Act.put, sA, s0, s1])
    refine tk 5 ?_ rfl (Or.inl ⟨by rfl, ?_⟩) (by assumption) ?_
    rotate_left; · (intro w hSw; (try dsimp only at hSw); go_simp; try with_reducible rfl)
    (try simp only [Act.put, sA, s0, s1])
    refine tk 6 ?_ rfl (Or.inl ⟨by rfl, ?_⟩) (by assumption) ?_
    rotate_left; · (intro w hSw; (try dsimp only at hSw); go_simp; try with_reducible rfl)
    (try simp only [Act.put, sA, s0, s1])
    refine tk 7 ?_ rfl (Or.inl ⟨by rfl, ?_⟩) (by assumption) ?_
    rotate_left; · (intro w hSw; (try dsimp only at hSw); go_simp; try with_reducible rfl)
    (try simp only [Act.put, sA, s0, s1])
    refine tk 8 ?_ rfl (Or.inl ⟨by rfl, ?_⟩) (by assumption) ?_
    rotate_left; · (intro w hSw; (try dsimp only at hSw); go_simp; try with_reducible rfl)
    (try simp only [Act.put, sA, s0, s1])
    refine tk 9 ?_ rfl (Or.inl ⟨by rfl, ?_⟩) (by assumption) ?_
    rotate_left; · (intro w hSw; (try dsimp only at hSw); go_simp; try with_reducible rfl)
    (try simp only [Act.put, sA, s0, s1])
    refine wpAnyT_step (i := 10) (by kernel_rfl) rfl (fun K hK => ?_)
    (go_simp; go_at_call 83; refine (HcV.out _).mono ?_; rintro e w9 ⟨rfl, hw9⟩; rw [hw9]; clear hw9; (try go_wp2_with fail))
    refine hK.out _ _ ?_ (fun hHeld => ?_)
    · exact hHeld
    clear hK K
    (try simp only [Act.put, sA, s0, s1])
    refine tk 11 ?_ rfl (Or.inl ⟨by rfl, ?_⟩) (by assumption) ?_
    rotate_left; · (intro w hSw; (try dsimp only at hSw); go_simp; try with_reducible rfl)
    (try simp only [Act.put, sA, s0, s1])
    refine wpAnyT_step (i := 12) (by kernel_rfl) rfl (fun K hK => ?_)
    (go_simp; go_at_call 82; refine (wop_call HO.out Hy.out B b (l ++ sg.data.toList) w5.drew HB.out hB5 (wr_same h5 (fun _ _ => rfl)) (by rw [List.length_append]; exact a5) (show Ck.Later W w5.drew from Hl5.out) _).mono ?_; rintro e w6 (⟨a6, rfl, h6, hb6, hk6⟩ | ⟨a6, rfl, hb6⟩))
    · dsimp only
      refine hK.out _ _ ?_ (fun hHeld => ?_)
      · exact ⟨block18 (box_kept hk6 (show w5.drew.heap[w.heap.size]? = _ from HC5.out) hne), (hb6.cell (show g < B from Nat.lt_of_lt_of_le HgW.out HB.out)).trans yc, Cells.below yr (hb6.block g (Nat.lt_of_lt_of_le HgW.out HB.out))⟩
      clear hK K
      (try simp only [Act.put, sA, s0, s1])
      refine wpAnyT_done (by kernel_rfl) ?_ _
      go_wp2_with fail
      go_end0
      exact WrPost.from Hbc.out Hk1.out (WrPost.quiet hB1 hb2 (WrPost.next a5 hb5 hk5 (o2 := apartO _ o) (.inl ⟨a6, rfl, h6, below_dB hb6, hk6⟩)))
    · dsimp only
      exact ⟨rfl, WrPost.from Hbc.out Hk1.out (WrPost.quiet hB1 hb2 (WrPost.next a5 hb5 hk5 (o2 := apartO _ o) (.inr ⟨a6, rfl, below_dB hb6⟩)))⟩)
theorem tout_10 {W : World} {t u : TermD} (hu : t.args[0]? = some u) {o : List UInt8} (hO : TermOut W u o) {v : Int} (cV : ∀ w, Calls Tryz.prog 83 #[.int .i64 u.s.op] w fun e w' => e = .returned (.int .i64 v) ∧ w' = w) {sg : ByteArray} (hsg : sg.size ≤ 2) (cS : ∀ w, Calls Tryz.prog 81 #[.int .i64 10] w fun e w' => e = .returned (.string sg) ∧ Below w.heap.size w w') (hop : t.s.op = 10) : TermOut W t (sg.data.toList ++ apartO (decide (v < 7)) o) := by
  intro x hx B b l w hB hBw h hl hw
  have hs := hx.s
  have HB := Lib.hid hB
  have Hl := Lib.hid hl
  have Hw := Lib.hid hw
  have hbl := WrIs.lt h
  have hn0 : 0 < x.n := by rw [hx.n]; exact (List.getElem?_eq_some_iff.1 hu).1
  obtain ⟨g, q, y, hpo, hy, hcl⟩ := hx.kid_u hu
  have hC0 := hcl w hw
  have hgW : g < W.heap.size := World.block_lt_of_cell? W _ ((hcl W ⟨Nat.le_refl _, fun _ _ => rfl⟩) 0 _ rfl)
  have hys := hy.s
  rw [hys] at cV
  have HcV := Lib.hid cV
  have HcS := Lib.hid cS
  have Hcl := Lib.hid hcl
  have Hy := Lib.hid hy
  have HgW := Lib.hid hgW
  have HO := Lib.hid hO
  obtain ⟨ap, hap⟩ : ∃ ap, decide (v < 7) = ap := ⟨_, rfl⟩
  rw [hap]
  clear cV cS hcl hC0 hy hgW hys hO hu
  obtain ⟨s, p, n, m⟩ := x
  simp only at hs hpo hn0 ⊢
  subst hpo
  subst hs
  have hA1 := Scal.arr_size t.s (.slice (some ⟨g, q, none⟩) n m)
  go_enter Tryz.func37, Tryz.ntmps37
  go_upto_region 1 with fail
  generalize hW1 : World.alloc w _ = W1
  have hbc : Below B w W1 := by rw [← hW1]; exact (Below.refl _ _).alloc hBw _
  have hC : W1.heap[w.heap.size]? = some (.cells (t.s.row (.slice (some ⟨g, q, none⟩) n m)).toArray 29 (0, 0)) := by rw [← hW1]; exact heap_alloc_new _ _
  have h1 : WrIs B b l W1 := by rw [← hW1]; exact WrIs.alloc h _
  have hk1 : Lib.OthersKept 5 (some b) w W1 := by rw [← hW1]; exact (Lib.OthersKept.refl _ _ _).alloc _
  have hlc : Ck.Later W W1 := later_B hw hB hbc
  have HX := Lib.hid hx
  clear hW1 h hx hB hl hw
  obtain ⟨x0, x1, x2, x3, x4, x5, x6, x7, x8, x9, x10, x11, x12, x13, x14, x15, x16, x17, x18⟩ := block_all hC
  rw [hop] at x0
  have Hop := Lib.hid hop
  have HC := Lib.hid hC
  have Hbc := Lib.hid hbc
  have H1 := Lib.hid h1
  have Hk1 := Lib.hid hk1
  have Hlc := Lib.hid hlc
  have hne : w.heap.size ≠ b := by omega
  have hs1 := hbc.size
  have hB1 := Nat.le_trans hBw hs1
  clear hop hC hbc h1 hk1 hlc
  clear x1 x2 x3 x4 x5 x6 x7 x8 x9 x10 x11 x12 x13 x14 x15 x16 x17 x18
  have hA3 := Scal.arr_size y.s y.v
  go_upto_region 28 with (first
    | (go_at_call 75; refine (put_call B b l sg w2 (WrIs.keep H1.out hb2) Hl.out (by omega) (Nat.le_trans hB1 hb2.size)).mono ?_; rintro e w5 (⟨a5, rfl, h5, hb5, hk5⟩ | ⟨a5, rfl, hb5⟩))
    | (go_at_call 81; refine (HcS.out W1).mono ?_; rintro e w2 ⟨rfl, hb2⟩))
  rotate_left
  · exact ⟨rfl, WrPost.from Hbc.out Hk1.out (WrPost.quiet hB1 hb2 (WrPost.more ⟨a5, rfl, hb5⟩))⟩
  have HC5 := Lib.hid (box_kept hk5 ((hb2.block _ (lt_of_some HC.out)).trans HC.out) hne)
  have hl5 := later_B (later_below Hlc.out hb2) HB.out hb5
  have hC := Hcl.out w5 hl5
  rw [Nat.zero_mul, Nat.add_zero] at hC
  have y18 : w5.drew.cell? _ = _ := block18 HC5.out
  have yc : w5.drew.cell? ⟨g, q, none⟩ = some (.int .i64 y.s.op) := hC 0 _ rfl
  have yr : Cells w5.drew g q y.s y.v := hC
  have Hl5 := Lib.hid hl5
  have hB5 := Nat.le_trans hB1 (Nat.le_trans hb2.size hb5.size)
  clear hC hl5
  cases ap
  all_goals (
    refine wp_region_tail (S := fun w' => w'.cell? ⟨w.heap.size, 18, none⟩ = some (.slice (some ⟨g, q, none⟩) n m) ∧ w'.cell? ⟨g, q, none⟩ = some (.int .i64 y.s.op) ∧ w'.rangeAt g q (y.s.row y.v)) (tail := (fun _ => false)) (by kernel_rfl) ⟨y18, yc, yr⟩ (fun hHeld => ?_)
    refine tk 0 ?_ rfl (Or.inl ⟨by rfl, ?_⟩) (by assumption) ?_
    rotate_left; · (intro w hSw; (try dsimp only at hSw); go_simp; try with_reducible rfl)
    (try simp only [Act.put, sA, s0, s1])
    refine tk 1 ?_ rfl (Or.inl ⟨by rfl, ?_⟩) (by assumption) ?_
    rotate_left; · (intro w hSw; (try dsimp only at hSw); go_simp; try with_reducible rfl)
    (try simp only [Act.put, sA, s0, s1])
    refine tk 2 ?_ rfl (Or.inl ⟨by rfl, ?_⟩) (by assumption) ?_
    rotate_left; · (intro w hSw; (try dsimp only at hSw); go_simp; try with_reducible rfl)
    (try simp only [Act.put, sA, s0, s1])
    refine tk 3 ?_ rfl (Or.inl ⟨by rfl, ?_⟩) (by assumption) ?_
    rotate_left; · (intro w hSw; (try dsimp only at hSw); go_simp; try with_reducible rfl)
    (try simp only [Act.put, sA, s0, s1])
    refine tk 4 _ rfl ((yieldsIf_load_mid (by rfl) 29 _ rfl g q rfl (y.s.row y.v) _ (fun w hSw => hSw.2.2) Tryz.underlying29 rfl size29)) (by assumption) ?_
    (try simp only [Act.put, sA, s0, s1])
    refine tk 5 ?_ rfl (Or.inl ⟨by rfl, ?_⟩) (by assumption) ?_
    rotate_left; · (intro w hSw; (try dsimp only at hSw); go_simp; try with_reducible rfl)
    (try simp only [Act.put, sA, s0, s1])
    refine tk 6 ?_ rfl (Or.inl ⟨by rfl, ?_⟩) (by assumption) ?_
    rotate_left; · (intro w hSw; (try dsimp only at hSw); go_simp; try with_reducible rfl)
    (try simp only [Act.put, sA, s0, s1])
    refine tk 7 ?_ rfl (Or.inl ⟨by rfl, ?_⟩) (by assumption) ?_
    rotate_left; · (intro w hSw; (try dsimp only at hSw); go_simp; try with_reducible rfl)
    (try simp only [Act.put, sA, s0, s1])
    refine tk 8 ?_ rfl (Or.inl ⟨by rfl, ?_⟩) (by assumption) ?_
    rotate_left; · (intro w hSw; (try dsimp only at hSw); go_simp; try with_reducible rfl)
    (try simp only [Act.put, sA, s0, s1])
    refine tk 9 ?_ rfl (Or.inl ⟨by rfl, ?_⟩) (by assumption) ?_
    rotate_left; · (intro w hSw; (try dsimp only at hSw); go_simp; try with_reducible rfl)
    (try simp only [Act.put, sA, s0, s1])
    refine wpAnyT_step (i := 10) (by kernel_rfl) rfl (fun K hK => ?_)
    (go_simp; go_at_call 83; refine (HcV.out _).mono ?_; rintro e w9 ⟨rfl, hw9⟩; rw [hw9]; clear hw9; (try go_wp2_with fail))
    refine hK.out _ _ ?_ (fun hHeld => ?_)
    · exact hHeld
    clear hK K
    (try simp only [Act.put, sA, s0, s1])
    refine tk 11 ?_ rfl (Or.inl ⟨by rfl, ?_⟩) (by assumption) ?_
    rotate_left; · (intro w hSw; (try dsimp only at hSw); go_simp; try with_reducible rfl)
    (try simp only [Act.put, sA, s0, s1])
    refine wpAnyT_step (i := 12) (by kernel_rfl) rfl (fun K hK => ?_)
    (go_simp; go_at_call 82; refine (wop_call HO.out Hy.out B b (l ++ sg.data.toList) w5.drew HB.out hB5 (wr_same h5 (fun _ _ => rfl)) (by rw [List.length_append]; exact a5) (show Ck.Later W w5.drew from Hl5.out) _).mono ?_; rintro e w6 (⟨a6, rfl, h6, hb6, hk6⟩ | ⟨a6, rfl, hb6⟩))
    · dsimp only
      refine hK.out _ _ ?_ (fun hHeld => ?_)
      · exact ⟨block18 (box_kept hk6 (show w5.drew.heap[w.heap.size]? = _ from HC5.out) hne), (hb6.cell (show g < B from Nat.lt_of_lt_of_le HgW.out HB.out)).trans yc, Cells.below yr (hb6.block g (Nat.lt_of_lt_of_le HgW.out HB.out))⟩
      clear hK K
      (try simp only [Act.put, sA, s0, s1])
      refine wpAnyT_done (by kernel_rfl) ?_ _
      go_wp2_with fail
      go_end0
      exact WrPost.from Hbc.out Hk1.out (WrPost.quiet hB1 hb2 (WrPost.next a5 hb5 hk5 (o2 := apartO _ o) (.inl ⟨a6, rfl, h6, below_dB hb6, hk6⟩)))
    · dsimp only
      exact ⟨rfl, WrPost.from Hbc.out Hk1.out (WrPost.quiet hB1 hb2 (WrPost.next a5 hb5 hk5 (o2 := apartO _ o) (.inr ⟨a6, rfl, below_dB hb6⟩)))⟩)
end Go.Proofs.YtkeibmkcgnppeaaGreatDoor

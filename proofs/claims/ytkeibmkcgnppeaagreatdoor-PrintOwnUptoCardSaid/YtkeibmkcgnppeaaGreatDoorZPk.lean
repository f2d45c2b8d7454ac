/- A leaf s test, first part. -/
import Derived.Test.YtkeibmkcgnppeaaGreatDoorZPf
import Derived.Test.YtkeibmkcgnppeaaGreatDoorZPd
import Derived.Test.YtkeibmkcgnppeaaGreatDoorZPa
set_option maxHeartbeats 32000000
set_option linter.unusedSimpArgs false
set_option linter.unusedVariables false
namespace Go.Proofs.YtkeibmkcgnppeaaGreatDoor
open Go Go.RowKit
set_option maxRecDepth 100000
theorem wpList_wanted {P : Program} {ops : Array Oper} {rest : List Oper} {o : Oper} {a : Act} {w : World} {Q : Exit → Act → World → Prop} (hw : Region.wanted o (yielded ops a.tmps) = true)
    (h : ∀ K : Act → World → Prop, (∀ a w, wpList P ops Q rest a w → K a w) → o.wp P a w K Q) : wpList P ops Q (o :: rest) a w :=
  wpList_step fun K hK => by simp only [hw, if_true]; exact h K hK
theorem wpList_load_row' {P : Program} {ops : Array Oper} {rest : List Oper} {o : Oper} {a : Act} {w : World} {Q : Exit → Act → World → Prop} (hw : Region.wanted o (yielded ops a.tmps) = true) (ty : TypeId) (x : Operand) (ho : o.op = .load ty x)
    (g : Nat) (hx : a.eval x = .pointer (some ⟨g, 0, none⟩)) (t : TypeId) (cs : Array Value) (fr : Nat × Nat) (d : TypeDesc) (hg : w.heap[g]? = some (.cells cs t fr))
    (hu : P.underlying ty = some d) (hd : (match d with | .struct _ | .array _ _ => true | _ => false) = true) (hi : (P.info? ty).map (·.size) = some cs.size)
    (h : wpList P ops Q rest (a.put o.dst (.agg cs)) w) : wpList P ops Q (o :: rest) a w :=
  wpList_wanted hw fun _ hK => wp_load_row ty x ho g hx t cs fr d hg hu hd hi (hK _ _ h)
theorem wpList_load_mid' {P : Program} {ops : Array Oper} {rest : List Oper} {o : Oper} {a : Act} {w : World} {Q : Exit → Act → World → Prop} (hw : Region.wanted o (yielded ops a.tmps) = true) (ty : TypeId) (x : Operand) (ho : o.op = .load ty x)
    (b p : Nat) (hx : a.eval x = .pointer (some ⟨b, p, none⟩)) (cs : List Value) (d : TypeDesc) (hc : w.rangeAt b p cs)
    (hu : P.underlying ty = some d) (hd : d.isRow = true) (hi : (P.info? ty).map (·.size) = some cs.length)
    (h : wpList P ops Q rest (a.put o.dst (.agg cs.toArray)) w) : wpList P ops Q (o :: rest) a w :=
  wpList_wanted hw fun _ hK => wp_load_mid ty x ho b p hx cs d hc hu hd hi (hK _ _ h)
theorem wpList_build' {P : Program} {ops : Array Oper} {rest : List Oper} {o : Oper} {a : Act} {w : World} {Q : Exit → Act → World → Prop} (hw : Region.wanted o (yielded ops a.tmps) = true) (t : TypeId) (parts : Array (Nat × Operand)) (ho : o.op = .build t parts)
    (cells : Array Value) (hf : P.built t (parts.map fun (i, x) => (i, a.eval x)).toList = some cells)
    (h : wpList P ops Q rest (a.put o.dst (.agg cells)) w) : wpList P ops Q (o :: rest) a w :=
  wpList_wanted hw fun _ hK => by
    unfold Oper.wp execOp
    simp only [ho, Sem.run_bind, run_build w t _ _ hf, Result.andThen_ok]
    exact hK _ _ h
theorem run_store_flt2 {P : Program} {w : World} {a : Addr} {m : Mode} (k : FloatKind) (b : Nat) : (store a (.float k b) m).run P w = stored P w a (.float k b) m := run_store P w a _ m rfl
attribute [local go_sem] run_store_flt2
abbrev bareA (k : Int) (nm : ByteArray) : Array Value := ((Sz.bareS k nm).row (.slice none 0 0)).toArray
def LeafAns (W : World) (s : Scal) (n : Nat) (arr b : Bool) : Prop := ∀ p m w, Ck.Later W w → Calls Tryz.prog 126 #[.agg (s.arr (.slice p n m)), .bool arr] w fun e w' => e = .returned (.bool b) ∧ Below w.heap.size w w'
theorem leaf_1 {W : World} (hg : Ck.Consts W) (s : Scal) (hok : s.OK) (hop : s.op = 1) (n : Nat) (arr : Bool) : ∃ b : Bool, (b = true → absB s.num < 9218868437227405312) ∧ LeafAns W s n arr b := by
  obtain ⟨q2, hq2, c2⟩ := amount_call hok.num (!arr)
  have cS := fun w hw => Sz.same123 hg { s with num := 0 } none 0 0 1 ⟨#[]⟩ w hw
  generalize Sz.sameB _ _ _ _ = q1 at cS
  refine ⟨decide (n = 0) && q1 && q2, fun h => hq2 (by simp only [Bool.and_eq_true] at h; exact h.2), fun p m w hw => ?_⟩
  generalize hb : (decide (n = 0) && q1 && q2) = b
  have Hq := Lib.hid hb
  have HcS := Lib.hid cS
  have Hw := Lib.hid hw
  clear cS hb hw hok hq2
  have hA1 := Scal.arr_size s (.slice p n m)
  go_enter Tryz.func126, Tryz.ntmps126
  go_upto_region 2 with (first
    | (refine wpList_load_row rfl 29 _ rfl w.heap.size rfl 29 (s.arr (.slice p n m)) (0, 0) _ (heap_alloc_new _ _) Tryz.underlying29 rfl size29 ?_)
    | (refine wpList_store_row rfl 29 _ _ rfl (w.heap.size + 1) (s.arr (.slice p n m)) rfl rfl 29 zeroTerm (heap_alloc2_new _ _ _) size29 rfl (Scal.arr_one _ _ _ _) ?_))
  generalize hW : World.setRow _ _ _ = W2
  have hB1 : W2.heap[w.heap.size]? = some (.cells (s.row (.slice p n m)).toArray 29 (0, 0)) := by
    rw [← hW, setRow_far _ _ (by omega), heap_alloc_old _ _ (by simp)]
    exact heap_alloc_new _ _
  have hB2 : W2.heap[w.heap.size + 1]? = some (.cells (s.row (.slice p n m)).toArray 29 (0, 0)) := by
    rw [← hW]
    exact setRow_heap _ _ _ _ _ _ (heap_alloc2_new _ _ _)
  have hbw : Below w.heap.size w W2 := by
    rw [← hW]
    exact below_setRow (((Below.refl _ _).alloc (Nat.le_refl _) _).alloc (by simp) _) (Nat.le_succ _) _
  clear hW
  obtain ⟨x0, x1, x2, x3, x4, x5, x6, x7, x8, x9, x10, x11, x12, x13, x14, x15, x16, x17, x18⟩ := block_all hB1
  obtain ⟨y0, y1, y2, y3, y4, y5, y6, y7, y8, y9, y10, y11, y12, y13, y14, y15, y16, y17, y18⟩ := block_all hB2
  have zf : W2.frozen? ⟨w.heap.size + 1, 1, none⟩ = false := by simp [World.frozen?, hB2]
  have z18 : W2.frozen? ⟨w.heap.size + 1, 18, none⟩ = false := by simp [World.frozen?, hB2]
  rw [hop] at x0
  have Hop := Lib.hid hop
  clear hop
  have Hb1 := Lib.hid hB1
  have Hb2 := Lib.hid hB2
  have Hbw := Lib.hid hbw
  clear hB1 hB2 hbw
  go_upto_region 6 with fail
  generalize hW3 : World.setCell (World.setCell W2 _ _) _ _ = W3
  have hC1 : W3.heap[w.heap.size]? = some (.cells (s.row (.slice p n m)).toArray 29 (0, 0)) := by
    rw [← hW3, set_other _ _ _ (show w.heap.size ≠ w.heap.size + 1 by omega), set_other _ _ _ (show w.heap.size ≠ w.heap.size + 1 by omega)]
    exact Hb1.out
  have hC2 : W3.heap[w.heap.size + 1]? = some (.cells (({ s with num := 0 } : Scal).row (.slice none 0 0)).toArray 29 (0, 0)) := by
    rw [← hW3]
    exact set_block (set_block Hb2.out _) _
  have hbw3 : Below w.heap.size w W3 := by
    rw [← hW3]
    exact set_below (set_below Hbw.out (Nat.le_succ _) _) (Nat.le_succ _) _
  clear hW3 x1 x2 x3 x4 x5 x6 x7 x8 x9 x10 x11 x12 x13 x14 x15 x16 x17 x18 y0 y1 y2 y3 y4 y5 y6 y7 y8 y9 y10 y11 y12 y13 y14 y15 y16 y17 y18 zf z18 x0
  obtain ⟨x0, x1, x2, x3, x4, x5, x6, x7, x8, x9, x10, x11, x12, x13, x14, x15, x16, x17, x18⟩ := block_all hC1
  rw [Hop.out] at x0
  have Hc1 := Lib.hid hC1
  have Hc2 := Lib.hid hC2
  have Hbw3 := Lib.hid hbw3
  have hl3 : Hid (Ck.Later W W3) := Lib.hid (show Later W W3 from (show Later W w from Hw.out).below hbw3)
  clear hC1 hC2 hbw3
  clear x2 x3 x4 x5 x6 x7 x8 x9 x10 x11 x12 x13 x14 x15 x16 x17
  by_cases hn : n = 0
  · subst hn
    cases q1
    · go_wp2_with (first
      | (go_at_call 123; refine (HcS.out _ hl3.out).mono ?_; rintro e w4 ⟨rfl, hb4⟩; have y0 := cell_keep hb4 x0; have y1 := cell_keep hb4 x1; clear x0 x1 x18)
      | (go_at_call 166; refine (c2 _).mono ?_; rintro e w5 ⟨rfl, rfl⟩)
      | (refine wpList_load_row' (by rfl) 29 _ rfl (w.heap.size + 1) rfl 29 _ (0, 0) _ Hc2.out Tryz.underlying29 rfl size29 ?_)
      | (refine wpList_build' (by rfl) 29 _ rfl (bareA 1 ⟨#[]⟩) (by kernel_rfl) ?_))
      go_ret
      exact ⟨by rw [← Hq.out]; rfl, Hbw3.out.trans (hb4.mono Hbw3.out.size)⟩
    · cases q2
      all_goals (
        go_wp2_with (first
        | (go_at_call 123; refine (HcS.out _ hl3.out).mono ?_; rintro e w4 ⟨rfl, hb4⟩; have y0 := cell_keep hb4 x0; have y1 := cell_keep hb4 x1; clear x0 x1 x18)
        | (go_at_call 166; refine (c2 _).mono ?_; rintro e w5 ⟨rfl, rfl⟩)
        | (refine wpList_load_row' (by rfl) 29 _ rfl (w.heap.size + 1) rfl 29 _ (0, 0) _ Hc2.out Tryz.underlying29 rfl size29 ?_)
        | (refine wpList_build' (by rfl) 29 _ rfl (bareA 1 ⟨#[]⟩) (by kernel_rfl) ?_))
        go_ret
        exact ⟨by rw [← Hq.out]; rfl, Hbw3.out.trans (hb4.mono Hbw3.out.size)⟩)
  · have hnz : ¬ ((n : Int) = 0) := by omega
    go_wp2_with fail
    go_ret
    exact ⟨by rw [← Hq.out]; simp [hn], Hbw3.out⟩
theorem leaf_2 {W : World} (hg : Ck.Consts W) (hT : Ck.Tabs W) (s : Scal) (hok : s.OK) (hop : s.op = 2) (n : Nat) (arr : Bool) : ∃ b : Bool, (b = true → True) ∧ LeafAns W s n arr b := by
  have c2 := fun w hw => valid_term hg hT s.tx (Nat.le_trans hok.tx (by decide)) w hw
  have hq2 : ∀ q : Bool, q = true → True := fun _ _ => trivial
  generalize (validT s.tx && decide (s.tx.size ≤ 32768)) = q2 at c2
  have hq2 := hq2 q2
  have cS := fun w hw => Sz.same123 hg { s with tx := ⟨#[]⟩ } none 0 0 2 ⟨#[]⟩ w hw
  generalize Sz.sameB _ _ _ _ = q1 at cS
  refine ⟨decide (n = 0) && q1 && q2, fun h => hq2 (by simp only [Bool.and_eq_true] at h; exact h.2), fun p m w hw => ?_⟩
  generalize hb : (decide (n = 0) && q1 && q2) = b
  have Hq := Lib.hid hb
  have HcS := Lib.hid cS
  have Hw := Lib.hid hw
  clear cS hb hw hok hq2
  have hA1 := Scal.arr_size s (.slice p n m)
  go_enter Tryz.func126, Tryz.ntmps126
  go_upto_region 2 with (first
    | (refine wpList_load_row rfl 29 _ rfl w.heap.size rfl 29 (s.arr (.slice p n m)) (0, 0) _ (heap_alloc_new _ _) Tryz.underlying29 rfl size29 ?_)
    | (refine wpList_store_row rfl 29 _ _ rfl (w.heap.size + 1) (s.arr (.slice p n m)) rfl rfl 29 zeroTerm (heap_alloc2_new _ _ _) size29 rfl (Scal.arr_one _ _ _ _) ?_))
  generalize hW : World.setRow _ _ _ = W2
  have hB1 : W2.heap[w.heap.size]? = some (.cells (s.row (.slice p n m)).toArray 29 (0, 0)) := by
    rw [← hW, setRow_far _ _ (by omega), heap_alloc_old _ _ (by simp)]
    exact heap_alloc_new _ _
  have hB2 : W2.heap[w.heap.size + 1]? = some (.cells (s.row (.slice p n m)).toArray 29 (0, 0)) := by
    rw [← hW]
    exact setRow_heap _ _ _ _ _ _ (heap_alloc2_new _ _ _)
  have hbw : Below w.heap.size w W2 := by
    rw [← hW]
    exact below_setRow (((Below.refl _ _).alloc (Nat.le_refl _) _).alloc (by simp) _) (Nat.le_succ _) _
  clear hW
  obtain ⟨x0, x1, x2, x3, x4, x5, x6, x7, x8, x9, x10, x11, x12, x13, x14, x15, x16, x17, x18⟩ := block_all hB1
  obtain ⟨y0, y1, y2, y3, y4, y5, y6, y7, y8, y9, y10, y11, y12, y13, y14, y15, y16, y17, y18⟩ := block_all hB2
  have zf : W2.frozen? ⟨w.heap.size + 1, 2, none⟩ = false := by simp [World.frozen?, hB2]
  have z18 : W2.frozen? ⟨w.heap.size + 1, 18, none⟩ = false := by simp [World.frozen?, hB2]
  rw [hop] at x0
  have Hop := Lib.hid hop
  clear hop
  have Hb1 := Lib.hid hB1
  have Hb2 := Lib.hid hB2
  have Hbw := Lib.hid hbw
  clear hB1 hB2 hbw
  go_upto_region 9 with fail
  generalize hW3 : World.setCell (World.setCell W2 _ _) _ _ = W3
  have hC1 : W3.heap[w.heap.size]? = some (.cells (s.row (.slice p n m)).toArray 29 (0, 0)) := by
    rw [← hW3, set_other _ _ _ (show w.heap.size ≠ w.heap.size + 1 by omega), set_other _ _ _ (show w.heap.size ≠ w.heap.size + 1 by omega)]
    exact Hb1.out
  have hC2 : W3.heap[w.heap.size + 1]? = some (.cells (({ s with tx := ⟨#[]⟩ } : Scal).row (.slice none 0 0)).toArray 29 (0, 0)) := by
    rw [← hW3]
    exact set_block (set_block Hb2.out _) _
  have hbw3 : Below w.heap.size w W3 := by
    rw [← hW3]
    exact set_below (set_below Hbw.out (Nat.le_succ _) _) (Nat.le_succ _) _
  clear hW3 x1 x2 x3 x4 x5 x6 x7 x8 x9 x10 x11 x12 x13 x14 x15 x16 x17 x18 y0 y1 y2 y3 y4 y5 y6 y7 y8 y9 y10 y11 y12 y13 y14 y15 y16 y17 y18 zf z18 x0
  obtain ⟨x0, x1, x2, x3, x4, x5, x6, x7, x8, x9, x10, x11, x12, x13, x14, x15, x16, x17, x18⟩ := block_all hC1
  rw [Hop.out] at x0
  have Hc1 := Lib.hid hC1
  have Hc2 := Lib.hid hC2
  have Hbw3 := Lib.hid hbw3
  have hl3 : Hid (Ck.Later W W3) := Lib.hid (show Later W W3 from (show Later W w from Hw.out).below hbw3)
  clear hC1 hC2 hbw3
  clear x1 x3 x4 x5 x6 x7 x8 x9 x10 x11 x12 x13 x14 x15 x16 x17
  by_cases hn : n = 0
  · subst hn
    cases q1
    · go_wp2_with (first
      | (go_at_call 123; refine (HcS.out _ hl3.out).mono ?_; rintro e w4 ⟨rfl, hb4⟩; have y0 := cell_keep hb4 x0; have y1 := cell_keep hb4 x2; clear x0 x2 x18)
      | (go_at_call 167; refine (c2 _ (show Later W w4 from (show Later W W3 from hl3.out).below hb4)).mono ?_; rintro e w5 ⟨rfl, hb5⟩)
      | (refine wpList_load_row' (by rfl) 29 _ rfl (w.heap.size + 1) rfl 29 _ (0, 0) _ Hc2.out Tryz.underlying29 rfl size29 ?_)
      | (refine wpList_build' (by rfl) 29 _ rfl (bareA 2 ⟨#[]⟩) (by kernel_rfl) ?_))
      go_ret
      exact ⟨by rw [← Hq.out]; rfl, Hbw3.out.trans (hb4.mono Hbw3.out.size)⟩
    · cases q2
      all_goals (
        go_wp2_with (first
        | (go_at_call 123; refine (HcS.out _ hl3.out).mono ?_; rintro e w4 ⟨rfl, hb4⟩; have y0 := cell_keep hb4 x0; have y1 := cell_keep hb4 x2; clear x0 x2 x18)
        | (go_at_call 167; refine (c2 _ (show Later W w4 from (show Later W W3 from hl3.out).below hb4)).mono ?_; rintro e w5 ⟨rfl, hb5⟩)
        | (refine wpList_load_row' (by rfl) 29 _ rfl (w.heap.size + 1) rfl 29 _ (0, 0) _ Hc2.out Tryz.underlying29 rfl size29 ?_)
        | (refine wpList_build' (by rfl) 29 _ rfl (bareA 2 ⟨#[]⟩) (by kernel_rfl) ?_))
        go_ret
        exact ⟨by rw [← Hq.out]; rfl, Hbw3.out.trans ((hb4.trans (hb5.mono hb4.size)).mono Hbw3.out.size)⟩)
  · have hnz : ¬ ((n : Int) = 0) := by omega
    go_wp2_with fail
    go_ret
    exact ⟨by rw [← Hq.out]; simp [hn], Hbw3.out⟩
theorem leaf_3 {W : World} (hg : Ck.Consts W) (s : Scal) (hok : s.OK) (hop : s.op = 3) (n : Nat) (arr : Bool) : ∃ b : Bool, (b = true → True) ∧ LeafAns W s n arr b := by
  have c2 := fun w => err_call s.er w
  have hq2 : ∀ q : Bool, q = true → True := fun _ _ => trivial
  have hss : (errT s.er).toList.isEmpty = decide ((errT s.er).size = 0) := by
    rw [Bool.eq_iff_iff, decide_eq_true_eq, ByteArray.toList_eq, List.isEmpty_iff_length_eq_zero]
    exact Iff.rfl
  generalize errT s.er = tt at c2 hss
  obtain ⟨q2, hqq⟩ : ∃ q2 : Bool, tt.toList.isEmpty = !q2 := ⟨!tt.toList.isEmpty, by simp⟩
  clear hss
  have hq2 := hq2 q2
  have cS := fun w hw => Sz.same123 hg { s with er := 0 } none 0 0 3 ⟨#[]⟩ w hw
  generalize Sz.sameB _ _ _ _ = q1 at cS
  refine ⟨decide (n = 0) && q1 && q2, fun h => hq2 (by simp only [Bool.and_eq_true] at h; exact h.2), fun p m w hw => ?_⟩
  generalize hb : (decide (n = 0) && q1 && q2) = b
  have Hq := Lib.hid hb
  have HcS := Lib.hid cS
  have Hw := Lib.hid hw
  clear cS hb hw hok hq2
  have hA1 := Scal.arr_size s (.slice p n m)
  go_enter Tryz.func126, Tryz.ntmps126
  go_upto_region 2 with (first
    | (refine wpList_load_row rfl 29 _ rfl w.heap.size rfl 29 (s.arr (.slice p n m)) (0, 0) _ (heap_alloc_new _ _) Tryz.underlying29 rfl size29 ?_)
    | (refine wpList_store_row rfl 29 _ _ rfl (w.heap.size + 1) (s.arr (.slice p n m)) rfl rfl 29 zeroTerm (heap_alloc2_new _ _ _) size29 rfl (Scal.arr_one _ _ _ _) ?_))
  generalize hW : World.setRow _ _ _ = W2
  have hB1 : W2.heap[w.heap.size]? = some (.cells (s.row (.slice p n m)).toArray 29 (0, 0)) := by
    rw [← hW, setRow_far _ _ (by omega), heap_alloc_old _ _ (by simp)]
    exact heap_alloc_new _ _
  have hB2 : W2.heap[w.heap.size + 1]? = some (.cells (s.row (.slice p n m)).toArray 29 (0, 0)) := by
    rw [← hW]
    exact setRow_heap _ _ _ _ _ _ (heap_alloc2_new _ _ _)
  have hbw : Below w.heap.size w W2 := by
    rw [← hW]
    exact below_setRow (((Below.refl _ _).alloc (Nat.le_refl _) _).alloc (by simp) _) (Nat.le_succ _) _
  clear hW
  obtain ⟨x0, x1, x2, x3, x4, x5, x6, x7, x8, x9, x10, x11, x12, x13, x14, x15, x16, x17, x18⟩ := block_all hB1
  obtain ⟨y0, y1, y2, y3, y4, y5, y6, y7, y8, y9, y10, y11, y12, y13, y14, y15, y16, y17, y18⟩ := block_all hB2
  have zf : W2.frozen? ⟨w.heap.size + 1, 3, none⟩ = false := by simp [World.frozen?, hB2]
  have z18 : W2.frozen? ⟨w.heap.size + 1, 18, none⟩ = false := by simp [World.frozen?, hB2]
  rw [hop] at x0
  have Hop := Lib.hid hop
  clear hop
  have Hb1 := Lib.hid hB1
  have Hb2 := Lib.hid hB2
  have Hbw := Lib.hid hbw
  clear hB1 hB2 hbw
  go_upto_region 12 with fail
  generalize hW3 : World.setCell (World.setCell W2 _ _) _ _ = W3
  have hC1 : W3.heap[w.heap.size]? = some (.cells (s.row (.slice p n m)).toArray 29 (0, 0)) := by
    rw [← hW3, set_other _ _ _ (show w.heap.size ≠ w.heap.size + 1 by omega), set_other _ _ _ (show w.heap.size ≠ w.heap.size + 1 by omega)]
    exact Hb1.out
  have hC2 : W3.heap[w.heap.size + 1]? = some (.cells (({ s with er := 0 } : Scal).row (.slice none 0 0)).toArray 29 (0, 0)) := by
    rw [← hW3]
    exact set_block (set_block Hb2.out _) _
  have hbw3 : Below w.heap.size w W3 := by
    rw [← hW3]
    exact set_below (set_below Hbw.out (Nat.le_succ _) _) (Nat.le_succ _) _
  clear hW3 x1 x2 x3 x4 x5 x6 x7 x8 x9 x10 x11 x12 x13 x14 x15 x16 x17 x18 y0 y1 y2 y3 y4 y5 y6 y7 y8 y9 y10 y11 y12 y13 y14 y15 y16 y17 y18 zf z18 x0
  obtain ⟨x0, x1, x2, x3, x4, x5, x6, x7, x8, x9, x10, x11, x12, x13, x14, x15, x16, x17, x18⟩ := block_all hC1
  rw [Hop.out] at x0
  have Hc1 := Lib.hid hC1
  have Hc2 := Lib.hid hC2
  have Hbw3 := Lib.hid hbw3
  have hl3 : Hid (Ck.Later W W3) := Lib.hid (show Later W W3 from (show Later W w from Hw.out).below hbw3)
  clear hC1 hC2 hbw3
  clear x1 x2 x4 x5 x6 x7 x8 x9 x10 x11 x12 x13 x14 x15 x16 x17
  by_cases hn : n = 0
  · subst hn
    cases q1
    · go_wp2_with (first
      | (go_at_call 123; refine (HcS.out _ hl3.out).mono ?_; rintro e w4 ⟨rfl, hb4⟩; have y0 := cell_keep hb4 x0; have y1 := cell_keep hb4 x3; clear x0 x3 x18)
      | (go_at_call 77; refine (c2 _).mono ?_; rintro e w5 ⟨rfl, hb5⟩)
      | (refine wpList_load_row' (by rfl) 29 _ rfl (w.heap.size + 1) rfl 29 _ (0, 0) _ Hc2.out Tryz.underlying29 rfl size29 ?_)
      | (refine wpList_build' (by rfl) 29 _ rfl (bareA 3 ⟨#[]⟩) (by kernel_rfl) ?_))
      go_ret
      exact ⟨by rw [← Hq.out]; rfl, Hbw3.out.trans (hb4.mono Hbw3.out.size)⟩
    · cases q2
      all_goals (
        go_wp2_with (first
        | (go_at_call 123; refine (HcS.out _ hl3.out).mono ?_; rintro e w4 ⟨rfl, hb4⟩; have y0 := cell_keep hb4 x0; have y1 := cell_keep hb4 x3; clear x0 x3 x18)
        | (go_at_call 77; refine (c2 _).mono ?_; rintro e w5 ⟨rfl, hb5⟩)
        | (refine wpList_load_row' (by rfl) 29 _ rfl (w.heap.size + 1) rfl 29 _ (0, 0) _ Hc2.out Tryz.underlying29 rfl size29 ?_)
        | (refine wpList_build' (by rfl) 29 _ rfl (bareA 3 ⟨#[]⟩) (by kernel_rfl) ?_))
        go_ret
        exact ⟨by rw [← Hq.out]; rfl, Hbw3.out.trans ((hb4.trans (hb5.mono hb4.size)).mono Hbw3.out.size)⟩)
  · have hnz : ¬ ((n : Int) = 0) := by omega
    go_wp2_with fail
    go_ret
    exact ⟨by rw [← Hq.out]; simp [hn], Hbw3.out⟩
theorem leaf_5 {W : World} (hg : Ck.Consts W) (s : Scal) (hok : s.OK) (hop : s.op = 5) (n : Nat) (arr : Bool) : ∃ b : Bool, (b = true → True) ∧ LeafAns W s n arr b := by
  have c2 := fun w => name_call s.nm w
  have hq2 : ∀ q : Bool, q = true → True := fun _ _ => trivial
  generalize nameOk s.nm = q2 at c2
  have hq2 := hq2 q2
  have cS := fun w hw => Sz.same123 hg { s with nm := ⟨#[]⟩ } none 0 0 5 ⟨#[]⟩ w hw
  generalize Sz.sameB _ _ _ _ = q1 at cS
  refine ⟨decide (n = 0) && q1 && q2, fun h => hq2 (by simp only [Bool.and_eq_true] at h; exact h.2), fun p m w hw => ?_⟩
  generalize hb : (decide (n = 0) && q1 && q2) = b
  have Hq := Lib.hid hb
  have HcS := Lib.hid cS
  have Hw := Lib.hid hw
  clear cS hb hw hok hq2
  have hA1 := Scal.arr_size s (.slice p n m)
  go_enter Tryz.func126, Tryz.ntmps126
  go_upto_region 2 with (first
    | (refine wpList_load_row rfl 29 _ rfl w.heap.size rfl 29 (s.arr (.slice p n m)) (0, 0) _ (heap_alloc_new _ _) Tryz.underlying29 rfl size29 ?_)
    | (refine wpList_store_row rfl 29 _ _ rfl (w.heap.size + 1) (s.arr (.slice p n m)) rfl rfl 29 zeroTerm (heap_alloc2_new _ _ _) size29 rfl (Scal.arr_one _ _ _ _) ?_))
  generalize hW : World.setRow _ _ _ = W2
  have hB1 : W2.heap[w.heap.size]? = some (.cells (s.row (.slice p n m)).toArray 29 (0, 0)) := by
    rw [← hW, setRow_far _ _ (by omega), heap_alloc_old _ _ (by simp)]
    exact heap_alloc_new _ _
  have hB2 : W2.heap[w.heap.size + 1]? = some (.cells (s.row (.slice p n m)).toArray 29 (0, 0)) := by
    rw [← hW]
    exact setRow_heap _ _ _ _ _ _ (heap_alloc2_new _ _ _)
  have hbw : Below w.heap.size w W2 := by
    rw [← hW]
    exact below_setRow (((Below.refl _ _).alloc (Nat.le_refl _) _).alloc (by simp) _) (Nat.le_succ _) _
  clear hW
  obtain ⟨x0, x1, x2, x3, x4, x5, x6, x7, x8, x9, x10, x11, x12, x13, x14, x15, x16, x17, x18⟩ := block_all hB1
  obtain ⟨y0, y1, y2, y3, y4, y5, y6, y7, y8, y9, y10, y11, y12, y13, y14, y15, y16, y17, y18⟩ := block_all hB2
  have zf : W2.frozen? ⟨w.heap.size + 1, 4, none⟩ = false := by simp [World.frozen?, hB2]
  have z18 : W2.frozen? ⟨w.heap.size + 1, 18, none⟩ = false := by simp [World.frozen?, hB2]
  rw [hop] at x0
  have Hop := Lib.hid hop
  clear hop
  have Hb1 := Lib.hid hB1
  have Hb2 := Lib.hid hB2
  have Hbw := Lib.hid hbw
  clear hB1 hB2 hbw
  go_upto_region 18 with fail
  generalize hW3 : World.setCell (World.setCell W2 _ _) _ _ = W3
  have hC1 : W3.heap[w.heap.size]? = some (.cells (s.row (.slice p n m)).toArray 29 (0, 0)) := by
    rw [← hW3, set_other _ _ _ (show w.heap.size ≠ w.heap.size + 1 by omega), set_other _ _ _ (show w.heap.size ≠ w.heap.size + 1 by omega)]
    exact Hb1.out
  have hC2 : W3.heap[w.heap.size + 1]? = some (.cells (({ s with nm := ⟨#[]⟩ } : Scal).row (.slice none 0 0)).toArray 29 (0, 0)) := by
    rw [← hW3]
    exact set_block (set_block Hb2.out _) _
  have hbw3 : Below w.heap.size w W3 := by
    rw [← hW3]
    exact set_below (set_below Hbw.out (Nat.le_succ _) _) (Nat.le_succ _) _
  clear hW3 x1 x2 x3 x4 x5 x6 x7 x8 x9 x10 x11 x12 x13 x14 x15 x16 x17 x18 y0 y1 y2 y3 y4 y5 y6 y7 y8 y9 y10 y11 y12 y13 y14 y15 y16 y17 y18 zf z18 x0
  obtain ⟨x0, x1, x2, x3, x4, x5, x6, x7, x8, x9, x10, x11, x12, x13, x14, x15, x16, x17, x18⟩ := block_all hC1
  rw [Hop.out] at x0
  have Hc1 := Lib.hid hC1
  have Hc2 := Lib.hid hC2
  have Hbw3 := Lib.hid hbw3
  have hl3 : Hid (Ck.Later W W3) := Lib.hid (show Later W W3 from (show Later W w from Hw.out).below hbw3)
  clear hC1 hC2 hbw3
  clear x1 x2 x3 x5 x6 x7 x8 x9 x10 x11 x12 x13 x14 x15 x16 x17
  by_cases hn : n = 0
  · subst hn
    cases q1
    · go_wp2_with (first
      | (go_at_call 123; refine (HcS.out _ hl3.out).mono ?_; rintro e w4 ⟨rfl, hb4⟩; have y0 := cell_keep hb4 x0; have y1 := cell_keep hb4 x4; clear x0 x4 x18)
      | (go_at_call 113; refine (c2 _).mono ?_; rintro e w5 ⟨rfl, rfl⟩)
      | (refine wpList_load_row' (by rfl) 29 _ rfl (w.heap.size + 1) rfl 29 _ (0, 0) _ Hc2.out Tryz.underlying29 rfl size29 ?_)
      | (refine wpList_build' (by rfl) 29 _ rfl (bareA 5 ⟨#[]⟩) (by kernel_rfl) ?_))
      go_ret
      exact ⟨by rw [← Hq.out]; rfl, Hbw3.out.trans (hb4.mono Hbw3.out.size)⟩
    · cases q2
      all_goals (
        go_wp2_with (first
        | (go_at_call 123; refine (HcS.out _ hl3.out).mono ?_; rintro e w4 ⟨rfl, hb4⟩; have y0 := cell_keep hb4 x0; have y1 := cell_keep hb4 x4; clear x0 x4 x18)
        | (go_at_call 113; refine (c2 _).mono ?_; rintro e w5 ⟨rfl, rfl⟩)
        | (refine wpList_load_row' (by rfl) 29 _ rfl (w.heap.size + 1) rfl 29 _ (0, 0) _ Hc2.out Tryz.underlying29 rfl size29 ?_)
        | (refine wpList_build' (by rfl) 29 _ rfl (bareA 5 ⟨#[]⟩) (by kernel_rfl) ?_))
        go_ret
        exact ⟨by rw [← Hq.out]; rfl, Hbw3.out.trans (hb4.mono Hbw3.out.size)⟩)
  · have hnz : ¬ ((n : Int) = 0) := by omega
    go_wp2_with fail
    go_ret
    exact ⟨by rw [← Hq.out]; simp [hn], Hbw3.out⟩
theorem leaf_8 {W : World} (hg : Ck.Consts W) (s : Scal) (hok : s.OK) (hop : s.op = 8) (n : Nat) (arr : Bool) : ∃ b : Bool, (b = true → True) ∧ LeafAns W s n arr b := by
  have hq2 : ∀ q : Bool, q = true → True := fun _ _ => trivial
  obtain ⟨q2, hqt⟩ : ∃ q2 : Bool, q2 = true := ⟨true, rfl⟩
  have hq2 := hq2 q2
  have cS := fun w hw => Sz.same123 hg s none 0 0 8 ⟨#[]⟩ w hw
  generalize Sz.sameB _ _ _ _ = q1 at cS
  refine ⟨decide (n = 0) && q1 && q2, fun h => hq2 (by simp only [Bool.and_eq_true] at h; exact h.2), fun p m w hw => ?_⟩
  generalize hb : (decide (n = 0) && q1 && q2) = b
  have Hq := Lib.hid hb
  have HcS := Lib.hid cS
  have Hw := Lib.hid hw
  clear cS hb hw hok hq2
  have hA1 := Scal.arr_size s (.slice p n m)
  go_enter Tryz.func126, Tryz.ntmps126
  go_upto_region 2 with (first
    | (refine wpList_load_row rfl 29 _ rfl w.heap.size rfl 29 (s.arr (.slice p n m)) (0, 0) _ (heap_alloc_new _ _) Tryz.underlying29 rfl size29 ?_)
    | (refine wpList_store_row rfl 29 _ _ rfl (w.heap.size + 1) (s.arr (.slice p n m)) rfl rfl 29 zeroTerm (heap_alloc2_new _ _ _) size29 rfl (Scal.arr_one _ _ _ _) ?_))
  generalize hW : World.setRow _ _ _ = W2
  have hB1 : W2.heap[w.heap.size]? = some (.cells (s.row (.slice p n m)).toArray 29 (0, 0)) := by
    rw [← hW, setRow_far _ _ (by omega), heap_alloc_old _ _ (by simp)]
    exact heap_alloc_new _ _
  have hB2 : W2.heap[w.heap.size + 1]? = some (.cells (s.row (.slice p n m)).toArray 29 (0, 0)) := by
    rw [← hW]
    exact setRow_heap _ _ _ _ _ _ (heap_alloc2_new _ _ _)
  have hbw : Below w.heap.size w W2 := by
    rw [← hW]
    exact below_setRow (((Below.refl _ _).alloc (Nat.le_refl _) _).alloc (by simp) _) (Nat.le_succ _) _
  clear hW
  obtain ⟨x0, x1, x2, x3, x4, x5, x6, x7, x8, x9, x10, x11, x12, x13, x14, x15, x16, x17, x18⟩ := block_all hB1
  obtain ⟨y0, y1, y2, y3, y4, y5, y6, y7, y8, y9, y10, y11, y12, y13, y14, y15, y16, y17, y18⟩ := block_all hB2
  have zf : W2.frozen? ⟨w.heap.size + 1, 4, none⟩ = false := by simp [World.frozen?, hB2]
  have z18 : W2.frozen? ⟨w.heap.size + 1, 18, none⟩ = false := by simp [World.frozen?, hB2]
  rw [hop] at x0
  have Hop := Lib.hid hop
  clear hop
  have Hb1 := Lib.hid hB1
  have Hb2 := Lib.hid hB2
  have Hbw := Lib.hid hbw
  clear hB1 hB2 hbw
  go_upto_region 20 with fail
  generalize hW3 : World.setCell W2 _ _ = W3
  have hC1 : W3.heap[w.heap.size]? = some (.cells (s.row (.slice p n m)).toArray 29 (0, 0)) := by
    rw [← hW3, set_other _ _ _ (show w.heap.size ≠ w.heap.size + 1 by omega)]
    exact Hb1.out
  have hC2 : W3.heap[w.heap.size + 1]? = some (.cells ((s : Scal).row (.slice none 0 0)).toArray 29 (0, 0)) := by
    rw [← hW3]
    exact set_block Hb2.out _
  have hbw3 : Below w.heap.size w W3 := by
    rw [← hW3]
    exact set_below Hbw.out (Nat.le_succ _) _
  clear hW3 x1 x2 x3 x4 x5 x6 x7 x8 x9 x10 x11 x12 x13 x14 x15 x16 x17 x18 y0 y1 y2 y3 y4 y5 y6 y7 y8 y9 y10 y11 y12 y13 y14 y15 y16 y17 y18 zf z18 x0
  obtain ⟨x0, x1, x2, x3, x4, x5, x6, x7, x8, x9, x10, x11, x12, x13, x14, x15, x16, x17, x18⟩ := block_all hC1
  rw [Hop.out] at x0
  have Hc1 := Lib.hid hC1
  have Hc2 := Lib.hid hC2
  have Hbw3 := Lib.hid hbw3
  have hl3 : Hid (Ck.Later W W3) := Lib.hid (show Later W W3 from (show Later W w from Hw.out).below hbw3)
  clear hC1 hC2 hbw3
  clear x1 x2 x3 x5 x6 x7 x8 x9 x10 x11 x12 x13 x14 x15 x16 x17
  by_cases hn : n = 0
  · subst hn
    cases q1
    · go_wp2_with (first
      | (go_at_call 123; refine (HcS.out _ hl3.out).mono ?_; rintro e w4 ⟨rfl, hb4⟩)
      | (refine wpList_load_row' (by rfl) 29 _ rfl (w.heap.size + 1) rfl 29 _ (0, 0) _ Hc2.out Tryz.underlying29 rfl size29 ?_)
      | (refine wpList_build' (by rfl) 29 _ rfl (bareA 8 ⟨#[]⟩) (by kernel_rfl) ?_))
      go_ret
      exact ⟨by rw [← Hq.out]; rfl, Hbw3.out.trans (hb4.mono Hbw3.out.size)⟩
    · subst hqt
      all_goals (
        go_wp2_with (first
        | (go_at_call 123; refine (HcS.out _ hl3.out).mono ?_; rintro e w4 ⟨rfl, hb4⟩)
        | (refine wpList_load_row' (by rfl) 29 _ rfl (w.heap.size + 1) rfl 29 _ (0, 0) _ Hc2.out Tryz.underlying29 rfl size29 ?_)
        | (refine wpList_build' (by rfl) 29 _ rfl (bareA 8 ⟨#[]⟩) (by kernel_rfl) ?_))
        go_ret
        exact ⟨by rw [← Hq.out]; rfl, Hbw3.out.trans (hb4.mono Hbw3.out.size)⟩)
  · have hnz : ¬ ((n : Int) = 0) := by omega
    go_wp2_with fail
    go_ret
    exact ⟨by rw [← Hq.out]; simp [hn], Hbw3.out⟩
theorem leaf_other {W : World} (s : Scal) (hop : ¬ (s.op = 1 ∨ s.op = 2 ∨ s.op = 3 ∨ s.op = 4 ∨ s.op = 5 ∨ s.op = 8)) (n : Nat) (arr : Bool) : LeafAns W s n arr false := by
  intro p m w _
  have f1 : (s.op == (1 : Int)) = false := by rw [beq_eq_false_iff_ne]; omega
  have f2 : (s.op == (2 : Int)) = false := by rw [beq_eq_false_iff_ne]; omega
  have f3 : (s.op == (3 : Int)) = false := by rw [beq_eq_false_iff_ne]; omega
  have f4 : (s.op == (4 : Int)) = false := by rw [beq_eq_false_iff_ne]; omega
  have f5 : (s.op == (5 : Int)) = false := by rw [beq_eq_false_iff_ne]; omega
  have f8 : (s.op == (8 : Int)) = false := by rw [beq_eq_false_iff_ne]; omega
  clear hop
  have hA1 := Scal.arr_size s (.slice p n m)
  go_enter Tryz.func126, Tryz.ntmps126
  go_upto_region 2 with (first
    | (refine wpList_load_row rfl 29 _ rfl w.heap.size rfl 29 (s.arr (.slice p n m)) (0, 0) _ (heap_alloc_new _ _) Tryz.underlying29 rfl size29 ?_)
    | (refine wpList_store_row rfl 29 _ _ rfl (w.heap.size + 1) (s.arr (.slice p n m)) rfl rfl 29 zeroTerm (heap_alloc2_new _ _ _) size29 rfl (Scal.arr_one _ _ _ _) ?_))
  generalize hW : World.setRow _ _ _ = W2
  have hB1 : W2.heap[w.heap.size]? = some (.cells (s.row (.slice p n m)).toArray 29 (0, 0)) := by
    rw [← hW, setRow_far _ _ (by omega), heap_alloc_old _ _ (by simp)]
    exact heap_alloc_new _ _
  have hB2 : W2.heap[w.heap.size + 1]? = some (.cells (s.row (.slice p n m)).toArray 29 (0, 0)) := by
    rw [← hW]
    exact setRow_heap _ _ _ _ _ _ (heap_alloc2_new _ _ _)
  have hbw : Below w.heap.size w W2 := by
    rw [← hW]
    exact below_setRow (((Below.refl _ _).alloc (Nat.le_refl _) _).alloc (by simp) _) (Nat.le_succ _) _
  clear hW
  obtain ⟨x0, x1, x2, x3, x4, x5, x6, x7, x8, x9, x10, x11, x12, x13, x14, x15, x16, x17, x18⟩ := block_all hB1
  obtain ⟨y0, y1, y2, y3, y4, y5, y6, y7, y8, y9, y10, y11, y12, y13, y14, y15, y16, y17, y18⟩ := block_all hB2
  have zf : W2.frozen? ⟨w.heap.size + 1, 4, none⟩ = false := by simp [World.frozen?, hB2]
  have z18 : W2.frozen? ⟨w.heap.size + 1, 18, none⟩ = false := by simp [World.frozen?, hB2]
  have Hb1 := Lib.hid hB1
  have Hb2 := Lib.hid hB2
  have Hbw := Lib.hid hbw
  clear hB1 hB2 hbw
  go_wp2_with fail
  go_ret
  exact ⟨rfl, set_below Hbw.out (Nat.le_succ _) _⟩
end Go.Proofs.YtkeibmkcgnppeaaGreatDoor

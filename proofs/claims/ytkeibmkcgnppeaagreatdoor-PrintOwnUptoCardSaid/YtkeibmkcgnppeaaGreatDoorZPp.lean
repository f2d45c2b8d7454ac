/- An array s items: their test. -/
import Derived.Test.YtkeibmkcgnppeaaGreatDoorZPo
set_option maxHeartbeats 32000000
namespace Go.Proofs.YtkeibmkcgnppeaaGreatDoor
open Go Go.RowKit
set_option maxRecDepth 100000
def trueT : ByteArray := ⟨#[84, 82, 85, 69]⟩
def falseT : ByteArray := ⟨#[70, 65, 76, 83, 69]⟩
open Classical in
noncomputable def itemB (W : World) (t : TermD) : Bool := Sz.sameB t.s t.args.length 6 trueT || Sz.sameB t.s t.args.length 6 falseT || (decide (t.s.op = 1 ∨ t.s.op = 2 ∨ t.s.op = 3) && leafB W t.s t.args.length true)
open Classical in
noncomputable def itemsB (W : World) (s : Scal) (l : List TermD) : Bool := decide (Sz.sameB { s with rw := 0 } 0 7 ⟨#[]⟩ = true ∧ 1 ≤ s.rw ∧ 1 ≤ l.length ∧ l.length ≤ 4096 ∧ (l.length : Int) % s.rw = 0 ∧ ∀ t ∈ l, itemB W t = true)
theorem items_call {W : World} (hg : Ck.Consts W) (hT : Ck.Tabs W) {x : RV} {t : TermD} (hx : x.Is W t) (hop : x.s.op = 7) (w : World) (hw : Ck.Later W w) :
    Calls Tryz.prog 125 #[.agg (x.s.arr (.slice x.p x.n x.m))] w fun e w' => e = .returned (.bool (itemsB W t.s t.args)) ∧ Below w.heap.size w w' := by
  have hkid := fun j hj => RV.Is.kid hx (j := j) hj
  have hn := hx.n
  have hlen := hx.len
  have hs := hx.s
  have Hg := Lib.hid hg
  have HT := Lib.hid hT
  have Hkid := Lib.hid hkid
  have Hw := Lib.hid hw
  have hv : itemsB W t.s t.args = itemsB W x.s t.args := by rw [hs]
  rw [hv]
  have cS := fun w hw => Sz.same123 hg { x.s with rw := 0 } none 0 0 7 ⟨#[]⟩ w hw
  obtain ⟨s, p, n, m⟩ := x
  simp only at hn hlen hkid Hkid hop cS ⊢
  have Hn := Lib.hid hn
  obtain ⟨q, hq⟩ : ∃ q, Sz.sameB { s with rw := 0 } 0 7 ⟨#[]⟩ = q := ⟨_, rfl⟩
  rw [hq] at cS
  have HcS := Lib.hid cS
  have Hq := Lib.hid hq
  clear hkid hg hT hx hn hw hs hv cS hq
  have hA1 := Scal.arr_size s (.slice p n m)
  go_enter Tryz.func125, Tryz.ntmps125
  go_upto_region 2 with (first
    | (refine wpList_load_row rfl 29 _ rfl w.heap.size rfl 29 (s.arr (.slice p n m)) (0, 0) _ (heap_alloc_new _ _) Tryz.underlying29 rfl size29 ?_)
    | (refine wpList_store_row rfl 29 _ _ rfl (w.heap.size + 1) (s.arr (.slice p n m)) rfl rfl 29 zeroTerm (heap_alloc2_new _ _ _) size29 rfl (Scal.arr_one _ _ _ _) ?_))
  generalize hW : World.setRow _ _ _ = W2
  have hB1 : W2.heap[w.heap.size]? = some (.cells (s.row (.slice p n m)).toArray 29 (0, 0)) := by
    rw [← hW, setRow_far _ _ (by omega), heap_alloc_old _ _ (by simp)]
    exact heap_alloc_new _ _
  have hB2 : W2.heap[w.heap.size + 1]? = some (.cells (s.row (.slice p n m)).toArray 29 (0, 0)) := by
    rw [← hW]
    exact setRow_heap _ _ _ _ _ _ (heap_alloc2_new _ _ _)
  have hbw : Below w.heap.size w W2 := by
    rw [← hW]
    exact below_setRow (((Below.refl _ _).alloc (Nat.le_refl _) _).alloc (by simp) _) (Nat.le_succ _) _
  clear hW
  obtain ⟨-, -, -, -, -, -, -, -, -, -, -, -, -, -, -, -, -, y17, y18⟩ := block_all hB2
  have zf : W2.frozen? ⟨w.heap.size + 1, 17, none⟩ = false := by simp [World.frozen?, hB2]
  have z18 : W2.frozen? ⟨w.heap.size + 1, 18, none⟩ = false := by simp [World.frozen?, hB2]
  have Hb1 := Lib.hid hB1
  have Hb2 := Lib.hid hB2
  have Hbw := Lib.hid hbw
  clear hB1 hB2 hbw
  go_upto_region 3 with fail
  generalize hW3 : World.setCell (World.setCell W2 _ _) _ _ = W3
  have hC1 : W3.heap[w.heap.size]? = some (.cells (s.row (.slice p n m)).toArray 29 (0, 0)) := by
    rw [← hW3, set_other _ _ _ (show w.heap.size ≠ w.heap.size + 1 by omega), set_other _ _ _ (show w.heap.size ≠ w.heap.size + 1 by omega)]
    exact Hb1.out
  have hC2 : W3.heap[w.heap.size + 1]? = some (.cells (({ s with rw := 0 } : Scal).row (.slice none 0 0)).toArray 29 (0, 0)) := by
    rw [← hW3]
    exact set_block (set_block Hb2.out _) _
  have hbw3 : Below w.heap.size w W3 := by
    rw [← hW3]
    exact set_below (set_below Hbw.out (Nat.le_succ _) _) (Nat.le_succ _) _
  clear hW3 y17 y18 zf z18
  obtain ⟨x0, -, -, -, -, -, -, -, -, -, -, -, -, -, -, -, -, x17, x18⟩ := block_all hC1
  rw [hop] at x0
  have Hop := Lib.hid hop
  clear hop
  have Hc1 := Lib.hid hC1
  have Hc2 := Lib.hid hC2
  have Hbw3 := Lib.hid hbw3
  have hl3 : Hid (Ck.Later W W3) := Lib.hid (later_below Hw.out hbw3)
  clear hC1 hC2 hbw3
  cases q
  · go_wp2_with (first
        | (go_at_call 123; refine (HcS.out _ hl3.out).mono ?_; rintro e w4 ⟨rfl, hb4⟩; replace x0 := cell_keep hb4 x0; replace x17 := cell_keep hb4 x17; replace x18 := cell_keep hb4 x18)
        | (refine wpList_load_row' (by rfl) 29 _ rfl (w.heap.size + 1) rfl 29 _ (0, 0) _ Hc2.out Tryz.underlying29 rfl size29 ?_)
        | (refine wpList_build' (by rfl) 29 _ rfl (bareA 7 ⟨#[]⟩) (by kernel_rfl) ?_))
    go_ret
    refine ⟨?_, Hbw3.out.trans (hb4.mono Hbw3.out.size)⟩
    have hv : itemsB W s t.args = false := by
      unfold itemsB
      refine decide_eq_false fun hh => ?_
      rw [Hq.out] at hh
      exact Bool.noConfusion hh.1
    rw [hv]
    rfl
  · by_cases hr1 : s.rw < 1
    · go_wp2_with (first
          | (go_at_call 123; refine (HcS.out _ hl3.out).mono ?_; rintro e w4 ⟨rfl, hb4⟩; replace x0 := cell_keep hb4 x0; replace x17 := cell_keep hb4 x17; replace x18 := cell_keep hb4 x18)
          | (refine wpList_load_row' (by rfl) 29 _ rfl (w.heap.size + 1) rfl 29 _ (0, 0) _ Hc2.out Tryz.underlying29 rfl size29 ?_)
          | (refine wpList_build' (by rfl) 29 _ rfl (bareA 7 ⟨#[]⟩) (by kernel_rfl) ?_))
      go_ret
      refine ⟨?_, Hbw3.out.trans (hb4.mono Hbw3.out.size)⟩
      have hv : itemsB W s t.args = false := by
        unfold itemsB
        refine decide_eq_false fun hh => ?_
        have := hh.2.1
        omega
      rw [hv]
      rfl
    have Hr1 := Lib.hid hr1
    have hr1z : (s.rw < 1) = False := eq_false hr1
    clear hr1
    by_cases hn1 : n < 1
    · have hn1z : (n : Int) < 1 := by omega
      go_wp2_with (first
          | (go_at_call 123; refine (HcS.out _ hl3.out).mono ?_; rintro e w4 ⟨rfl, hb4⟩; replace x0 := cell_keep hb4 x0; replace x17 := cell_keep hb4 x17; replace x18 := cell_keep hb4 x18)
          | (refine wpList_load_row' (by rfl) 29 _ rfl (w.heap.size + 1) rfl 29 _ (0, 0) _ Hc2.out Tryz.underlying29 rfl size29 ?_)
          | (refine wpList_build' (by rfl) 29 _ rfl (bareA 7 ⟨#[]⟩) (by kernel_rfl) ?_))
      go_ret
      refine ⟨?_, Hbw3.out.trans (hb4.mono Hbw3.out.size)⟩
      have hv : itemsB W s t.args = false := by
        unfold itemsB
        refine decide_eq_false fun hh => ?_
        have := hh.2.2.1
        rw [← Hn.out] at this
        omega
      rw [hv]
      rfl
    have hn1z : ((n : Int) < 1) = False := eq_false (by omega)
    by_cases hn2 : 4096 < n
    · have hn2z : (4096 : Int) < (n : Int) := by omega
      go_wp2_with (first
          | (go_at_call 123; refine (HcS.out _ hl3.out).mono ?_; rintro e w4 ⟨rfl, hb4⟩; replace x0 := cell_keep hb4 x0; replace x17 := cell_keep hb4 x17; replace x18 := cell_keep hb4 x18)
          | (refine wpList_load_row' (by rfl) 29 _ rfl (w.heap.size + 1) rfl 29 _ (0, 0) _ Hc2.out Tryz.underlying29 rfl size29 ?_)
          | (refine wpList_build' (by rfl) 29 _ rfl (bareA 7 ⟨#[]⟩) (by kernel_rfl) ?_))
      go_ret
      refine ⟨?_, Hbw3.out.trans (hb4.mono Hbw3.out.size)⟩
      have hv : itemsB W s t.args = false := by
        unfold itemsB
        refine decide_eq_false fun hh => ?_
        have := hh.2.2.2.1
        rw [← Hn.out] at this
        omega
      rw [hv]
      rfl
    have hn2z : ((4096 : Int) < (n : Int)) = False := eq_false (by omega)
    have hr0 : (s.rw = 0) = False := eq_false (by have := Hr1.out; omega)
    by_cases hr2 : (n : Int) % s.rw = 0
    rotate_left
    · have Hr2 := Lib.hid hr2
      go_wp2_with (first
          | (go_at_call 123; refine (HcS.out _ hl3.out).mono ?_; rintro e w4 ⟨rfl, hb4⟩; replace x0 := cell_keep hb4 x0; replace x17 := cell_keep hb4 x17; replace x18 := cell_keep hb4 x18)
          | (refine wpList_load_row' (by rfl) 29 _ rfl (w.heap.size + 1) rfl 29 _ (0, 0) _ Hc2.out Tryz.underlying29 rfl size29 ?_)
          | (refine wpList_build' (by rfl) 29 _ rfl (bareA 7 ⟨#[]⟩) (by kernel_rfl) ?_))
      go_ret
      refine ⟨?_, Hbw3.out.trans (hb4.mono Hbw3.out.size)⟩
      have hv : itemsB W s t.args = false := by
        unfold itemsB
        refine decide_eq_false fun hh => ?_
        have := hh.2.2.2.2.1
        rw [← Hn.out] at this
        exact Hr2.out this
      rw [hv]
      rfl
    go_wp2_with (first
        | (go_at_call 123; refine (HcS.out _ hl3.out).mono ?_; rintro e w4 ⟨rfl, hb4⟩; replace x0 := cell_keep hb4 x0; replace x17 := cell_keep hb4 x17; replace x18 := cell_keep hb4 x18)
        | (refine wpList_load_row' (by rfl) 29 _ rfl (w.heap.size + 1) rfl 29 _ (0, 0) _ Hc2.out Tryz.underlying29 rfl size29 ?_)
        | (refine wpList_build' (by rfl) 29 _ rfl (bareA 7 ⟨#[]⟩) (by kernel_rfl) ?_))
    have hb4c : Below w.heap.size w w4 := Hbw3.out.trans (hb4.mono Hbw3.out.size)
    have Hb4 := Lib.hid hb4c
    have Hr2 := Lib.hid hr2
    clear hb4 hb4c hr2 hr0 x0 x17 x18 HcS
    go_loopw [46] (fun i wr => ∃ j : Nat, i = .int .i64 j ∧ j ≤ n ∧ (∀ i (h : i < t.args.length), i < j → itemB W t.args[i] = true) ∧ Below w.heap.size w wr) (fun i _ => n - (intOf i).toNat)
    case atStart => exact ⟨0, rfl, Nat.zero_le _, fun i h hi => absurd hi (Nat.not_lt_zero _), Hb4.out⟩
    case round =>
      obtain ⟨j, rfl, hj, hgood, hbw⟩ := hrel
      rcases Nat.lt_or_ge j n with hlt | hge
      · have hja : j < t.args.length := by rw [← Hn.out]; exact hlt
        obtain ⟨b, o, y, hpo, hy, hcl⟩ := Hkid.out j hja
        subst hpo
        have hlr : Ck.Later W wr := later_below Hw.out hbw
        have hC := hcl wr hlr
        have hys := hy.s
        have hyn := hy.n
        have cLf := (leafB_spec Hg.out HT.out hy.ok y.n true).2
        have cT := fun w hw => Sz.same123 Hg.out y.s y.p y.n y.m 6 trueT w hw
        have cF := fun w hw => Sz.same123 Hg.out y.s y.p y.n y.m 6 falseT w hw
        have hab : itemB W t.args[j] = (Sz.sameB y.s y.n 6 trueT || Sz.sameB y.s y.n 6 falseT || (decide (y.s.op = 1 ∨ y.s.op = 2 ∨ y.s.op = 3) && leafB W y.s y.n true)) := by unfold itemB; rw [hys, hyn]
        have hfalse : itemB W t.args[j] = false → itemsB W s t.args = false := fun h => by
          unfold itemsB
          refine decide_eq_false fun hh => ?_
          have := hh.2.2.2.2.2 _ (List.getElem_mem hja)
          rw [h] at this
          cases this
        obtain ⟨ys, yp, yn, ym⟩ := y
        simp only at hC cLf cT cF hab hyn
        generalize leafB W ys yn true = ql at cLf hab
        generalize Sz.sameB ys yn 6 trueT = qT at cT hab
        generalize Sz.sameB ys yn 6 falseT = qF at cF hab
        have HC := Lib.hid hC
        have HcLf : Hid (∀ p m w, Ck.Later W w → _) := Lib.hid cLf
        have HcT := Lib.hid cT
        have HcF := Lib.hid cF
        have Hab := Lib.hid hab
        have Hfalse := Lib.hid hfalse
        have Hgood := Lib.hid hgood
        have Hbw := Lib.hid hbw
        clear hC hcl cLf cT cF hab hfalse hgood hys hy hyn hbw hlr
        have hjz : (j : Int) < (n : Int) := by omega
        have hj0 : (0 : Int) ≤ (j : Int) := by omega
        have hA2 := Scal.arr_size ys (.slice yp yn ym)
        go_upto_region 8 with (first
          | (refine wpList_load_mid rfl 29 _ rfl b (o + j * 19) rfl (ys.row (.slice yp yn ym)) _ HC.out Tryz.underlying29 rfl size29 ?_)
          | (refine wpList_store_row rfl 29 _ _ rfl wr.heap.size (ys.arr (.slice yp yn ym)) rfl rfl 29 zeroTerm (heap_alloc_new _ _) size29 rfl (Scal.arr_one _ _ _ _) ?_))
        generalize hW1 : World.setRow _ _ _ = W1
        have hB1 : W1.heap[wr.heap.size]? = some (.cells (ys.row (.slice yp yn ym)).toArray 29 (0, 0)) := by
          rw [← hW1]
          exact setRow_heap _ _ _ _ _ _ (heap_alloc_new _ _)
        have hb1 : Below w.heap.size w W1 := by
          rw [← hW1]
          exact below_setRow (Hbw.out.alloc Hbw.out.size _) Hbw.out.size _
        clear hW1
        have HB1 := Lib.hid hB1
        have hbc := hb1
        have hlc : Ck.Later W W1 := later_below Hw.out hb1
        clear hb1
        rcases (show ys.op = 1 ∨ ys.op = 2 ∨ ys.op = 3 ∨ ¬ (ys.op = 1 ∨ ys.op = 2 ∨ ys.op = 3) by omega) with h | h | h | h
        · have f1 : (ys.op == (1 : Int)) = true := by rw [beq_iff_eq]; exact h
          have Hh := Lib.hid h
          clear h
          cases qT
          · cases qF
            · cases ql
              · obtain ⟨x0, -, -, -, -, -, -, -, -, -, -, -, -, -, -, -, -, -, -⟩ := block_all hB1
                clear hB1
                go_wp2_with (first
                  | (go_at_call 123; (first | with_reducible refine (HcT.out _ hlc).mono ?_ | with_reducible refine (HcF.out _ hlc).mono ?_); rintro e w5 ⟨rfl, hb5⟩; replace x0 := cell_keep hb5 x0; have HB1 := Lib.hid ((hb5.block _ (lt_of_some HB1.out)).trans HB1.out); replace hbc := hbc.trans (hb5.mono hbc.size); replace hlc := later_below hlc hb5; clear hb5)
                  | (go_at_call 126; refine (HcLf.out _ _ _ hlc).mono ?_; rintro e w5 ⟨rfl, hb5⟩; replace hbc := hbc.trans (hb5.mono hbc.size))
                  | (refine wpList_load_row' (by rfl) 29 _ rfl wr.heap.size rfl 29 _ (0, 0) _ HB1.out Tryz.underlying29 rfl size29 ?_)
                  | (refine wpList_build' (by rfl) 29 #[(0, .const (.int .i64 6)), (4, .const (.string ⟨#[84, 82, 85, 69]⟩))] rfl (bareA 6 trueT) (by kernel_rfl) ?_)
                  | (refine wpList_build' (by rfl) 29 #[(0, .const (.int .i64 6)), (4, .const (.string ⟨#[70, 65, 76, 83, 69]⟩))] rfl (bareA 6 falseT) (by kernel_rfl) ?_))
                go_ret
                exact ⟨by rw [Hfalse.out (by rw [Hab.out]; simp [Hh.out])]; rfl, hbc⟩
              · obtain ⟨x0, -, -, -, -, -, -, -, -, -, -, -, -, -, -, -, -, -, -⟩ := block_all hB1
                clear hB1
                go_wp2_with (first
                  | (go_at_call 123; (first | with_reducible refine (HcT.out _ hlc).mono ?_ | with_reducible refine (HcF.out _ hlc).mono ?_); rintro e w5 ⟨rfl, hb5⟩; replace x0 := cell_keep hb5 x0; have HB1 := Lib.hid ((hb5.block _ (lt_of_some HB1.out)).trans HB1.out); replace hbc := hbc.trans (hb5.mono hbc.size); replace hlc := later_below hlc hb5; clear hb5)
                  | (go_at_call 126; refine (HcLf.out _ _ _ hlc).mono ?_; rintro e w5 ⟨rfl, hb5⟩; replace hbc := hbc.trans (hb5.mono hbc.size))
                  | (refine wpList_load_row' (by rfl) 29 _ rfl wr.heap.size rfl 29 _ (0, 0) _ HB1.out Tryz.underlying29 rfl size29 ?_)
                  | (refine wpList_build' (by rfl) 29 #[(0, .const (.int .i64 6)), (4, .const (.string ⟨#[84, 82, 85, 69]⟩))] rfl (bareA 6 trueT) (by kernel_rfl) ?_)
                  | (refine wpList_build' (by rfl) 29 #[(0, .const (.int .i64 6)), (4, .const (.string ⟨#[70, 65, 76, 83, 69]⟩))] rfl (bareA 6 falseT) (by kernel_rfl) ?_))
                refine ⟨⟨j + 1, rfl, hlt, fun i h hi => ?_, hbc⟩, by simp only [intOf]; omega⟩
                rcases Nat.lt_or_ge i j with h5 | h5
                · exact Hgood.out i h h5
                · obtain rfl : i = j := by omega
                  rw [Hab.out]
                  simp [Hh.out]
            · obtain ⟨x0, -, -, -, -, -, -, -, -, -, -, -, -, -, -, -, -, -, -⟩ := block_all hB1
              clear hB1
              go_wp2_with (first
                | (go_at_call 123; (first | with_reducible refine (HcT.out _ hlc).mono ?_ | with_reducible refine (HcF.out _ hlc).mono ?_); rintro e w5 ⟨rfl, hb5⟩; replace x0 := cell_keep hb5 x0; have HB1 := Lib.hid ((hb5.block _ (lt_of_some HB1.out)).trans HB1.out); replace hbc := hbc.trans (hb5.mono hbc.size); replace hlc := later_below hlc hb5; clear hb5)
                | (go_at_call 126; refine (HcLf.out _ _ _ hlc).mono ?_; rintro e w5 ⟨rfl, hb5⟩; replace hbc := hbc.trans (hb5.mono hbc.size))
                | (refine wpList_load_row' (by rfl) 29 _ rfl wr.heap.size rfl 29 _ (0, 0) _ HB1.out Tryz.underlying29 rfl size29 ?_)
                | (refine wpList_build' (by rfl) 29 #[(0, .const (.int .i64 6)), (4, .const (.string ⟨#[84, 82, 85, 69]⟩))] rfl (bareA 6 trueT) (by kernel_rfl) ?_)
                | (refine wpList_build' (by rfl) 29 #[(0, .const (.int .i64 6)), (4, .const (.string ⟨#[70, 65, 76, 83, 69]⟩))] rfl (bareA 6 falseT) (by kernel_rfl) ?_))
              refine ⟨⟨j + 1, rfl, hlt, fun i h hi => ?_, hbc⟩, by simp only [intOf]; omega⟩
              rcases Nat.lt_or_ge i j with h5 | h5
              · exact Hgood.out i h h5
              · obtain rfl : i = j := by omega
                rw [Hab.out]
                simp [Hh.out]
          · obtain ⟨x0, -, -, -, -, -, -, -, -, -, -, -, -, -, -, -, -, -, -⟩ := block_all hB1
            clear hB1
            go_wp2_with (first
              | (go_at_call 123; (first | with_reducible refine (HcT.out _ hlc).mono ?_ | with_reducible refine (HcF.out _ hlc).mono ?_); rintro e w5 ⟨rfl, hb5⟩; replace x0 := cell_keep hb5 x0; have HB1 := Lib.hid ((hb5.block _ (lt_of_some HB1.out)).trans HB1.out); replace hbc := hbc.trans (hb5.mono hbc.size); replace hlc := later_below hlc hb5; clear hb5)
              | (go_at_call 126; refine (HcLf.out _ _ _ hlc).mono ?_; rintro e w5 ⟨rfl, hb5⟩; replace hbc := hbc.trans (hb5.mono hbc.size))
              | (refine wpList_load_row' (by rfl) 29 _ rfl wr.heap.size rfl 29 _ (0, 0) _ HB1.out Tryz.underlying29 rfl size29 ?_)
              | (refine wpList_build' (by rfl) 29 #[(0, .const (.int .i64 6)), (4, .const (.string ⟨#[84, 82, 85, 69]⟩))] rfl (bareA 6 trueT) (by kernel_rfl) ?_)
              | (refine wpList_build' (by rfl) 29 #[(0, .const (.int .i64 6)), (4, .const (.string ⟨#[70, 65, 76, 83, 69]⟩))] rfl (bareA 6 falseT) (by kernel_rfl) ?_))
            refine ⟨⟨j + 1, rfl, hlt, fun i h hi => ?_, hbc⟩, by simp only [intOf]; omega⟩
            rcases Nat.lt_or_ge i j with h5 | h5
            · exact Hgood.out i h h5
            · obtain rfl : i = j := by omega
              rw [Hab.out]
              simp [Hh.out]
        · have f1 : (ys.op == (1 : Int)) = false := by rw [beq_eq_false_iff_ne]; omega
          have f2 : (ys.op == (2 : Int)) = true := by rw [beq_iff_eq]; exact h
          have Hh := Lib.hid h
          clear h
          cases qT
          · cases qF
            · cases ql
              · obtain ⟨x0, -, -, -, -, -, -, -, -, -, -, -, -, -, -, -, -, -, -⟩ := block_all hB1
                clear hB1
                go_wp2_with (first
                  | (go_at_call 123; (first | with_reducible refine (HcT.out _ hlc).mono ?_ | with_reducible refine (HcF.out _ hlc).mono ?_); rintro e w5 ⟨rfl, hb5⟩; replace x0 := cell_keep hb5 x0; have HB1 := Lib.hid ((hb5.block _ (lt_of_some HB1.out)).trans HB1.out); replace hbc := hbc.trans (hb5.mono hbc.size); replace hlc := later_below hlc hb5; clear hb5)
                  | (go_at_call 126; refine (HcLf.out _ _ _ hlc).mono ?_; rintro e w5 ⟨rfl, hb5⟩; replace hbc := hbc.trans (hb5.mono hbc.size))
                  | (refine wpList_load_row' (by rfl) 29 _ rfl wr.heap.size rfl 29 _ (0, 0) _ HB1.out Tryz.underlying29 rfl size29 ?_)
                  | (refine wpList_build' (by rfl) 29 #[(0, .const (.int .i64 6)), (4, .const (.string ⟨#[84, 82, 85, 69]⟩))] rfl (bareA 6 trueT) (by kernel_rfl) ?_)
                  | (refine wpList_build' (by rfl) 29 #[(0, .const (.int .i64 6)), (4, .const (.string ⟨#[70, 65, 76, 83, 69]⟩))] rfl (bareA 6 falseT) (by kernel_rfl) ?_))
                go_ret
                exact ⟨by rw [Hfalse.out (by rw [Hab.out]; simp [Hh.out])]; rfl, hbc⟩
              · obtain ⟨x0, -, -, -, -, -, -, -, -, -, -, -, -, -, -, -, -, -, -⟩ := block_all hB1
                clear hB1
                go_wp2_with (first
                  | (go_at_call 123; (first | with_reducible refine (HcT.out _ hlc).mono ?_ | with_reducible refine (HcF.out _ hlc).mono ?_); rintro e w5 ⟨rfl, hb5⟩; replace x0 := cell_keep hb5 x0; have HB1 := Lib.hid ((hb5.block _ (lt_of_some HB1.out)).trans HB1.out); replace hbc := hbc.trans (hb5.mono hbc.size); replace hlc := later_below hlc hb5; clear hb5)
                  | (go_at_call 126; refine (HcLf.out _ _ _ hlc).mono ?_; rintro e w5 ⟨rfl, hb5⟩; replace hbc := hbc.trans (hb5.mono hbc.size))
                  | (refine wpList_load_row' (by rfl) 29 _ rfl wr.heap.size rfl 29 _ (0, 0) _ HB1.out Tryz.underlying29 rfl size29 ?_)
                  | (refine wpList_build' (by rfl) 29 #[(0, .const (.int .i64 6)), (4, .const (.string ⟨#[84, 82, 85, 69]⟩))] rfl (bareA 6 trueT) (by kernel_rfl) ?_)
                  | (refine wpList_build' (by rfl) 29 #[(0, .const (.int .i64 6)), (4, .const (.string ⟨#[70, 65, 76, 83, 69]⟩))] rfl (bareA 6 falseT) (by kernel_rfl) ?_))
                refine ⟨⟨j + 1, rfl, hlt, fun i h hi => ?_, hbc⟩, by simp only [intOf]; omega⟩
                rcases Nat.lt_or_ge i j with h5 | h5
                · exact Hgood.out i h h5
                · obtain rfl : i = j := by omega
                  rw [Hab.out]
                  simp [Hh.out]
            · obtain ⟨x0, -, -, -, -, -, -, -, -, -, -, -, -, -, -, -, -, -, -⟩ := block_all hB1
              clear hB1
              go_wp2_with (first
                | (go_at_call 123; (first | with_reducible refine (HcT.out _ hlc).mono ?_ | with_reducible refine (HcF.out _ hlc).mono ?_); rintro e w5 ⟨rfl, hb5⟩; replace x0 := cell_keep hb5 x0; have HB1 := Lib.hid ((hb5.block _ (lt_of_some HB1.out)).trans HB1.out); replace hbc := hbc.trans (hb5.mono hbc.size); replace hlc := later_below hlc hb5; clear hb5)
                | (go_at_call 126; refine (HcLf.out _ _ _ hlc).mono ?_; rintro e w5 ⟨rfl, hb5⟩; replace hbc := hbc.trans (hb5.mono hbc.size))
                | (refine wpList_load_row' (by rfl) 29 _ rfl wr.heap.size rfl 29 _ (0, 0) _ HB1.out Tryz.underlying29 rfl size29 ?_)
                | (refine wpList_build' (by rfl) 29 #[(0, .const (.int .i64 6)), (4, .const (.string ⟨#[84, 82, 85, 69]⟩))] rfl (bareA 6 trueT) (by kernel_rfl) ?_)
                | (refine wpList_build' (by rfl) 29 #[(0, .const (.int .i64 6)), (4, .const (.string ⟨#[70, 65, 76, 83, 69]⟩))] rfl (bareA 6 falseT) (by kernel_rfl) ?_))
              refine ⟨⟨j + 1, rfl, hlt, fun i h hi => ?_, hbc⟩, by simp only [intOf]; omega⟩
              rcases Nat.lt_or_ge i j with h5 | h5
              · exact Hgood.out i h h5
              · obtain rfl : i = j := by omega
                rw [Hab.out]
                simp [Hh.out]
          · obtain ⟨x0, -, -, -, -, -, -, -, -, -, -, -, -, -, -, -, -, -, -⟩ := block_all hB1
            clear hB1
            go_wp2_with (first
              | (go_at_call 123; (first | with_reducible refine (HcT.out _ hlc).mono ?_ | with_reducible refine (HcF.out _ hlc).mono ?_); rintro e w5 ⟨rfl, hb5⟩; replace x0 := cell_keep hb5 x0; have HB1 := Lib.hid ((hb5.block _ (lt_of_some HB1.out)).trans HB1.out); replace hbc := hbc.trans (hb5.mono hbc.size); replace hlc := later_below hlc hb5; clear hb5)
              | (go_at_call 126; refine (HcLf.out _ _ _ hlc).mono ?_; rintro e w5 ⟨rfl, hb5⟩; replace hbc := hbc.trans (hb5.mono hbc.size))
              | (refine wpList_load_row' (by rfl) 29 _ rfl wr.heap.size rfl 29 _ (0, 0) _ HB1.out Tryz.underlying29 rfl size29 ?_)
              | (refine wpList_build' (by rfl) 29 #[(0, .const (.int .i64 6)), (4, .const (.string ⟨#[84, 82, 85, 69]⟩))] rfl (bareA 6 trueT) (by kernel_rfl) ?_)
              | (refine wpList_build' (by rfl) 29 #[(0, .const (.int .i64 6)), (4, .const (.string ⟨#[70, 65, 76, 83, 69]⟩))] rfl (bareA 6 falseT) (by kernel_rfl) ?_))
            refine ⟨⟨j + 1, rfl, hlt, fun i h hi => ?_, hbc⟩, by simp only [intOf]; omega⟩
            rcases Nat.lt_or_ge i j with h5 | h5
            · exact Hgood.out i h h5
            · obtain rfl : i = j := by omega
              rw [Hab.out]
              simp [Hh.out]
        · have f1 : (ys.op == (1 : Int)) = false := by rw [beq_eq_false_iff_ne]; omega
          have f2 : (ys.op == (2 : Int)) = false := by rw [beq_eq_false_iff_ne]; omega
          have f3 : (ys.op == (3 : Int)) = true := by rw [beq_iff_eq]; exact h
          have Hh := Lib.hid h
          clear h
          cases qT
          · cases qF
            · cases ql
              · obtain ⟨x0, -, -, -, -, -, -, -, -, -, -, -, -, -, -, -, -, -, -⟩ := block_all hB1
                clear hB1
                go_wp2_with (first
                  | (go_at_call 123; (first | with_reducible refine (HcT.out _ hlc).mono ?_ | with_reducible refine (HcF.out _ hlc).mono ?_); rintro e w5 ⟨rfl, hb5⟩; replace x0 := cell_keep hb5 x0; have HB1 := Lib.hid ((hb5.block _ (lt_of_some HB1.out)).trans HB1.out); replace hbc := hbc.trans (hb5.mono hbc.size); replace hlc := later_below hlc hb5; clear hb5)
                  | (go_at_call 126; refine (HcLf.out _ _ _ hlc).mono ?_; rintro e w5 ⟨rfl, hb5⟩; replace hbc := hbc.trans (hb5.mono hbc.size))
                  | (refine wpList_load_row' (by rfl) 29 _ rfl wr.heap.size rfl 29 _ (0, 0) _ HB1.out Tryz.underlying29 rfl size29 ?_)
                  | (refine wpList_build' (by rfl) 29 #[(0, .const (.int .i64 6)), (4, .const (.string ⟨#[84, 82, 85, 69]⟩))] rfl (bareA 6 trueT) (by kernel_rfl) ?_)
                  | (refine wpList_build' (by rfl) 29 #[(0, .const (.int .i64 6)), (4, .const (.string ⟨#[70, 65, 76, 83, 69]⟩))] rfl (bareA 6 falseT) (by kernel_rfl) ?_))
                go_ret
                exact ⟨by rw [Hfalse.out (by rw [Hab.out]; simp [Hh.out])]; rfl, hbc⟩
              · obtain ⟨x0, -, -, -, -, -, -, -, -, -, -, -, -, -, -, -, -, -, -⟩ := block_all hB1
                clear hB1
                go_wp2_with (first
                  | (go_at_call 123; (first | with_reducible refine (HcT.out _ hlc).mono ?_ | with_reducible refine (HcF.out _ hlc).mono ?_); rintro e w5 ⟨rfl, hb5⟩; replace x0 := cell_keep hb5 x0; have HB1 := Lib.hid ((hb5.block _ (lt_of_some HB1.out)).trans HB1.out); replace hbc := hbc.trans (hb5.mono hbc.size); replace hlc := later_below hlc hb5; clear hb5)
                  | (go_at_call 126; refine (HcLf.out _ _ _ hlc).mono ?_; rintro e w5 ⟨rfl, hb5⟩; replace hbc := hbc.trans (hb5.mono hbc.size))
                  | (refine wpList_load_row' (by rfl) 29 _ rfl wr.heap.size rfl 29 _ (0, 0) _ HB1.out Tryz.underlying29 rfl size29 ?_)
                  | (refine wpList_build' (by rfl) 29 #[(0, .const (.int .i64 6)), (4, .const (.string ⟨#[84, 82, 85, 69]⟩))] rfl (bareA 6 trueT) (by kernel_rfl) ?_)
                  | (refine wpList_build' (by rfl) 29 #[(0, .const (.int .i64 6)), (4, .const (.string ⟨#[70, 65, 76, 83, 69]⟩))] rfl (bareA 6 falseT) (by kernel_rfl) ?_))
                refine ⟨⟨j + 1, rfl, hlt, fun i h hi => ?_, hbc⟩, by simp only [intOf]; omega⟩
                rcases Nat.lt_or_ge i j with h5 | h5
                · exact Hgood.out i h h5
                · obtain rfl : i = j := by omega
                  rw [Hab.out]
                  simp [Hh.out]
            · obtain ⟨x0, -, -, -, -, -, -, -, -, -, -, -, -, -, -, -, -, -, -⟩ := block_all hB1
              clear hB1
              go_wp2_with (first
                | (go_at_call 123; (first | with_reducible refine (HcT.out _ hlc).mono ?_ | with_reducible refine (HcF.out _ hlc).mono ?_); rintro e w5 ⟨rfl, hb5⟩; replace x0 := cell_keep hb5 x0; have HB1 := Lib.hid ((hb5.block _ (lt_of_some HB1.out)).trans HB1.out); replace hbc := hbc.trans (hb5.mono hbc.size); replace hlc := later_below hlc hb5; clear hb5)
                | (go_at_call 126; refine (HcLf.out _ _ _ hlc).mono ?_; rintro e w5 ⟨rfl, hb5⟩; replace hbc := hbc.trans (hb5.mono hbc.size))
                | (refine wpList_load_row' (by rfl) 29 _ rfl wr.heap.size rfl 29 _ (0, 0) _ HB1.out Tryz.underlying29 rfl size29 ?_)
                | (refine wpList_build' (by rfl) 29 #[(0, .const (.int .i64 6)), (4, .const (.string ⟨#[84, 82, 85, 69]⟩))] rfl (bareA 6 trueT) (by kernel_rfl) ?_)
                | (refine wpList_build' (by rfl) 29 #[(0, .const (.int .i64 6)), (4, .const (.string ⟨#[70, 65, 76, 83, 69]⟩))] rfl (bareA 6 falseT) (by kernel_rfl) ?_))
              refine ⟨⟨j + 1, rfl, hlt, fun i h hi => ?_, hbc⟩, by simp only [intOf]; omega⟩
              rcases Nat.lt_or_ge i j with h5 | h5
              · exact Hgood.out i h h5
              · obtain rfl : i = j := by omega
                rw [Hab.out]
                simp [Hh.out]
          · obtain ⟨x0, -, -, -, -, -, -, -, -, -, -, -, -, -, -, -, -, -, -⟩ := block_all hB1
            clear hB1
            go_wp2_with (first
              | (go_at_call 123; (first | with_reducible refine (HcT.out _ hlc).mono ?_ | with_reducible refine (HcF.out _ hlc).mono ?_); rintro e w5 ⟨rfl, hb5⟩; replace x0 := cell_keep hb5 x0; have HB1 := Lib.hid ((hb5.block _ (lt_of_some HB1.out)).trans HB1.out); replace hbc := hbc.trans (hb5.mono hbc.size); replace hlc := later_below hlc hb5; clear hb5)
              | (go_at_call 126; refine (HcLf.out _ _ _ hlc).mono ?_; rintro e w5 ⟨rfl, hb5⟩; replace hbc := hbc.trans (hb5.mono hbc.size))
              | (refine wpList_load_row' (by rfl) 29 _ rfl wr.heap.size rfl 29 _ (0, 0) _ HB1.out Tryz.underlying29 rfl size29 ?_)
              | (refine wpList_build' (by rfl) 29 #[(0, .const (.int .i64 6)), (4, .const (.string ⟨#[84, 82, 85, 69]⟩))] rfl (bareA 6 trueT) (by kernel_rfl) ?_)
              | (refine wpList_build' (by rfl) 29 #[(0, .const (.int .i64 6)), (4, .const (.string ⟨#[70, 65, 76, 83, 69]⟩))] rfl (bareA 6 falseT) (by kernel_rfl) ?_))
            refine ⟨⟨j + 1, rfl, hlt, fun i h hi => ?_, hbc⟩, by simp only [intOf]; omega⟩
            rcases Nat.lt_or_ge i j with h5 | h5
            · exact Hgood.out i h h5
            · obtain rfl : i = j := by omega
              rw [Hab.out]
              simp [Hh.out]
        · have f1 : (ys.op == (1 : Int)) = false := by rw [beq_eq_false_iff_ne]; omega
          have f2 : (ys.op == (2 : Int)) = false := by rw [beq_eq_false_iff_ne]; omega
          have f3 : (ys.op == (3 : Int)) = false := by rw [beq_eq_false_iff_ne]; omega
          have Hh := Lib.hid h
          clear h
          cases qT
          · cases qF
            · obtain ⟨x0, -, -, -, -, -, -, -, -, -, -, -, -, -, -, -, -, -, -⟩ := block_all hB1
              clear hB1
              go_wp2_with (first
                | (go_at_call 123; (first | with_reducible refine (HcT.out _ hlc).mono ?_ | with_reducible refine (HcF.out _ hlc).mono ?_); rintro e w5 ⟨rfl, hb5⟩; replace x0 := cell_keep hb5 x0; have HB1 := Lib.hid ((hb5.block _ (lt_of_some HB1.out)).trans HB1.out); replace hbc := hbc.trans (hb5.mono hbc.size); replace hlc := later_below hlc hb5; clear hb5)
                | (go_at_call 126; refine (HcLf.out _ _ _ hlc).mono ?_; rintro e w5 ⟨rfl, hb5⟩; replace hbc := hbc.trans (hb5.mono hbc.size))
                | (refine wpList_load_row' (by rfl) 29 _ rfl wr.heap.size rfl 29 _ (0, 0) _ HB1.out Tryz.underlying29 rfl size29 ?_)
                | (refine wpList_build' (by rfl) 29 #[(0, .const (.int .i64 6)), (4, .const (.string ⟨#[84, 82, 85, 69]⟩))] rfl (bareA 6 trueT) (by kernel_rfl) ?_)
                | (refine wpList_build' (by rfl) 29 #[(0, .const (.int .i64 6)), (4, .const (.string ⟨#[70, 65, 76, 83, 69]⟩))] rfl (bareA 6 falseT) (by kernel_rfl) ?_))
              go_ret
              exact ⟨by rw [Hfalse.out (by rw [Hab.out]; simp [Hh.out])]; rfl, hbc⟩
            · obtain ⟨x0, -, -, -, -, -, -, -, -, -, -, -, -, -, -, -, -, -, -⟩ := block_all hB1
              clear hB1
              go_wp2_with (first
                | (go_at_call 123; (first | with_reducible refine (HcT.out _ hlc).mono ?_ | with_reducible refine (HcF.out _ hlc).mono ?_); rintro e w5 ⟨rfl, hb5⟩; replace x0 := cell_keep hb5 x0; have HB1 := Lib.hid ((hb5.block _ (lt_of_some HB1.out)).trans HB1.out); replace hbc := hbc.trans (hb5.mono hbc.size); replace hlc := later_below hlc hb5; clear hb5)
                | (go_at_call 126; refine (HcLf.out _ _ _ hlc).mono ?_; rintro e w5 ⟨rfl, hb5⟩; replace hbc := hbc.trans (hb5.mono hbc.size))
                | (refine wpList_load_row' (by rfl) 29 _ rfl wr.heap.size rfl 29 _ (0, 0) _ HB1.out Tryz.underlying29 rfl size29 ?_)
                | (refine wpList_build' (by rfl) 29 #[(0, .const (.int .i64 6)), (4, .const (.string ⟨#[84, 82, 85, 69]⟩))] rfl (bareA 6 trueT) (by kernel_rfl) ?_)
                | (refine wpList_build' (by rfl) 29 #[(0, .const (.int .i64 6)), (4, .const (.string ⟨#[70, 65, 76, 83, 69]⟩))] rfl (bareA 6 falseT) (by kernel_rfl) ?_))
              refine ⟨⟨j + 1, rfl, hlt, fun i h hi => ?_, hbc⟩, by simp only [intOf]; omega⟩
              rcases Nat.lt_or_ge i j with h5 | h5
              · exact Hgood.out i h h5
              · obtain rfl : i = j := by omega
                rw [Hab.out]
                simp [Hh.out]
          · obtain ⟨x0, -, -, -, -, -, -, -, -, -, -, -, -, -, -, -, -, -, -⟩ := block_all hB1
            clear hB1
            go_wp2_with (first
              | (go_at_call 123; (first | with_reducible refine (HcT.out _ hlc).mono ?_ | with_reducible refine (HcF.out _ hlc).mono ?_); rintro e w5 ⟨rfl, hb5⟩; replace x0 := cell_keep hb5 x0; have HB1 := Lib.hid ((hb5.block _ (lt_of_some HB1.out)).trans HB1.out); replace hbc := hbc.trans (hb5.mono hbc.size); replace hlc := later_below hlc hb5; clear hb5)
              | (go_at_call 126; refine (HcLf.out _ _ _ hlc).mono ?_; rintro e w5 ⟨rfl, hb5⟩; replace hbc := hbc.trans (hb5.mono hbc.size))
              | (refine wpList_load_row' (by rfl) 29 _ rfl wr.heap.size rfl 29 _ (0, 0) _ HB1.out Tryz.underlying29 rfl size29 ?_)
              | (refine wpList_build' (by rfl) 29 #[(0, .const (.int .i64 6)), (4, .const (.string ⟨#[84, 82, 85, 69]⟩))] rfl (bareA 6 trueT) (by kernel_rfl) ?_)
              | (refine wpList_build' (by rfl) 29 #[(0, .const (.int .i64 6)), (4, .const (.string ⟨#[70, 65, 76, 83, 69]⟩))] rfl (bareA 6 falseT) (by kernel_rfl) ?_))
            refine ⟨⟨j + 1, rfl, hlt, fun i h hi => ?_, hbc⟩, by simp only [intOf]; omega⟩
            rcases Nat.lt_or_ge i j with h5 | h5
            · exact Hgood.out i h h5
            · obtain rfl : i = j := by omega
              rw [Hab.out]
              simp [Hh.out]
      · obtain rfl : j = n := by omega
        have hjz : ((j : Int) < (j : Int)) = False := eq_false (by omega)
        have hv : itemsB W s t.args = true := by
          unfold itemsB
          refine decide_eq_true ⟨Hq.out, by have := Hr1.out; omega, by rw [← Hn.out]; omega, by rw [← Hn.out]; omega, by rw [← Hn.out]; exact Hr2.out, fun u hu => ?_⟩
          obtain ⟨i, hi, rfl⟩ := List.getElem_of_mem hu
          exact hgood i hi (by rw [Hn.out]; exact hi)
        have Hv := Lib.hid hv
        clear hv hgood
        go_wp2_with fail
        go_ret
        exact ⟨by rw [Hv.out]; rfl, hbw⟩
end Go.Proofs.YtkeibmkcgnppeaaGreatDoor

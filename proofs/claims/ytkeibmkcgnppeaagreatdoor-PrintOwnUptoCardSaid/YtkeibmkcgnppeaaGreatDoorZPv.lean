/- A term s test, whatever the term; what passes it can be printed. -/
import Derived.Test.YtkeibmkcgnppeaaGreatDoorZPp
import Derived.Test.YtkeibmkcgnppeaaGreatDoorZPr
import Derived.Test.YtkeibmkcgnppeaaGreatDoorZPva
set_option maxHeartbeats 32000000
namespace Go.Proofs.YtkeibmkcgnppeaaGreatDoor
open Go Go.RowKit
set_option maxRecDepth 100000
open Classical in
noncomputable def fitsS (W : World) (F : TermD → Int → Bool) (t : TermD) (d : Int) : Bool :=
  if 64 < d then false else if t.s.op = 8 then false
  else if t.s.op = 6 then Sz.sameB { t.s with nm := ⟨#[]⟩ } 0 6 ⟨#[]⟩ && nameOk t.s.nm && decide (upT t.s.nm = t.s.nm) && argsB W F t.args (d + 1)
  else if t.s.op = 7 then itemsB W t.s t.args
  else if levelF t.s.op = 9 then leafB W t.s t.args.length false
  else if Sz.sameB t.s 0 t.s.op ⟨#[]⟩ = false then false
  else if levelF t.s.op = 6 then (if h : t.args.length = 1 then operandF F (t.args[0]'(by omega)) 6 (d + 1) else false)
  else lineF F t (levelF t.s.op) d
noncomputable def fitsF (W : World) : Nat → TermD → Int → Bool
  | 0, _, _ => false
  | g + 1, t, d => fitsS W (fitsF W g) t d
theorem str_eq (a b : ByteArray) : (a.toList == b.toList) = decide (a = b) := by
  rw [Bool.eq_iff_iff]
  simp only [beq_iff_eq, decide_eq_true_eq, ByteArray.toList_eq]
  exact ⟨fun h => ByteArray.ext (Array.toList_inj.1 h), fun h => by rw [h]⟩
theorem levelF_bound (k : Int) : -1000 ≤ levelF k ∧ levelF k ≤ 1000 := by
  unfold levelF
  repeat' split
  all_goals omega
theorem fits_step {W : World} (hg : Ck.Consts W) (hT : Ck.Tabs W) {F : TermD → Int → Bool} {N : Nat} (hF : FitsAt W F N) (hN : N ≤ 16777216) {x : RV} {t : TermD} (hx : x.Is W t) (hwt : t.wt ≤ N + 1) (d : Int) (h0 : 0 ≤ d) (h1 : d ≤ 1073741824) (w : World) (hw : Ck.Later W w) :
    Calls Tryz.prog 74 #[.agg (x.s.arr (.slice x.p x.n x.m)), .int .i64 d] w fun e w' => e = .returned (.bool (fitsS W F t d)) ∧ Below w.heap.size w w' := by
  have hA1 := Scal.arr_size x.s (.slice x.p x.n x.m)
  have hs := hx.s
  have hxn := hx.n
  obtain ⟨v, hv⟩ : ∃ v, fitsS W F t d = v := ⟨_, rfl⟩
  rw [hv]
  unfold fitsS at hv
  rw [hs] at hv
  have cI := fun (h : x.s.op = 7) w hw => items_call hg hT hx h w hw
  rw [hs] at cI
  have cL := fun p m w hw => (leafB_spec hg hT hx.ok x.n false).2 p m w hw
  have cA := fun (h0 : 0 ≤ d + 1) (h1 : d + 1 ≤ 1073741824) w hw => args_call hg hT hF hx hwt (d + 1) h0 h1 w hw
  have c1 := fun (h : x.s.op = 11) (h1 : d ≤ 64) w hw => line1_call hg hF hN hx hwt h d h0 h1 w hw
  have c2 := fun (h : ¬ x.s.op = 11) (h1 : d ≤ 64) w hw => line2_call hg hF hN hx hwt h (levelF x.s.op) (levelF_bound _) rfl d h0 h1 w hw
  have cK := fun (h : 0 < t.args.length) => hx.kid (j := 0) h
  have cO := fun {y : RV} {u : TermD} (hy : y.Is W u) (hu : u.wt ≤ N) (h0 : 0 ≤ d + 1) (h1 : d + 1 ≤ 1073741824) w hw => operand_call hF hy hu 6 (d + 1) h0 h1 w hw
  have hkw := fun (h : 0 < t.args.length) => kid_wt (t := t) (j := 0) h
  have hnm := hx.ok.nm
  have cS0 := fun w hw => Sz.same123 hg x.s none 0 0 x.s.op ⟨#[]⟩ w hw
  have cS6 := fun w hw => Sz.same123 hg { x.s with nm := ⟨#[]⟩ } none 0 0 6 ⟨#[]⟩ w hw
  have cN := fun w => name_call x.s.nm w
  have cU := fun w => upper_call x.s.nm hnm w
  have hue := str_eq (upT x.s.nm) x.s.nm
  have cV := fun w => level_call x.s.op w
  have hwt0 := hwt
  obtain ⟨s, p, n, m⟩ := x
  simp only at hv cI cL cA c1 c2 cK hA1 hxn cS0 cS6 cN cU hue cV hnm ⊢
  have Hv := Lib.hid hv
  have HcI := Lib.hid cI
  have HcL := Lib.hid cL
  have HcA := Lib.hid cA
  have Hc1 := Lib.hid c1
  have Hc2 := Lib.hid c2
  have HcK := Lib.hid cK
  have HcO : Hid (∀ {y : RV} {u : TermD}, y.Is W u → u.wt ≤ N → 0 ≤ d + 1 → d + 1 ≤ 1073741824 → ∀ w, Ck.Later W w → _) := Lib.hid cO
  have Hkw := Lib.hid hkw
  have HcS0 := Lib.hid cS0
  have HcS6 := Lib.hid cS6
  have HcN := Lib.hid cN
  have HcU := Lib.hid cU
  have HcV := Lib.hid cV
  have Hue := Lib.hid hue
  have Hxn := Lib.hid hxn
  have Hw := Lib.hid hw
  clear hv cI cL cA c1 c2 cK cO hkw cS0 cS6 cN cU cV hue hxn hw hg hT hF hx hs hwt hnm
  by_cases hd : 64 < d
  · go_enter Tryz.func74, Tryz.ntmps74
    go_wp2_with fail
    go_ret
    refine ⟨?_, (Below.refl _ _).alloc (Nat.le_refl _) _⟩
    rw [← Hv.out, if_pos hd]
    rfl
  by_cases h6 : s.op = 6
  · have hv2 : (Sz.sameB { s with nm := ⟨#[]⟩ } 0 6 ⟨#[]⟩ && nameOk s.nm && decide (upT s.nm = s.nm) && argsB W F t.args (d + 1)) = v := by
      rw [← Hv.out, if_neg (c := 64 < d) hd, if_neg (c := s.op = 8) (by omega), if_pos h6]
    rw [← hv2]
    exact fits_six s p n m h6 d h0 (by omega) _ _ _ _ _ HcS6.out HcN.out HcU.out Hue.out (HcA.out (by omega) (by omega)) w Hw.out
  have g6 : (s.op == (6 : Int)) = false := by rw [beq_eq_false_iff_ne]; exact h6
  have H6 := Lib.hid h6
  clear h6
  have hdz : (64 < d) = False := eq_false hd
  have Hd := Lib.hid hd
  clear hd
  go_enter Tryz.func74, Tryz.ntmps74
  go_upto_region 4 with (first
    | (refine wpList_load_row rfl 29 _ rfl w.heap.size rfl 29 (s.arr (.slice p n m)) (0, 0) _ (heap_alloc_new _ _) Tryz.underlying29 rfl size29 ?_)
    | (refine wpList_store_row rfl 29 _ _ rfl (w.heap.size + 1) (s.arr (.slice p n m)) rfl rfl 29 zeroTerm (heap_alloc2_new _ _ _) size29 rfl (Scal.arr_one _ _ _ _) ?_))
  generalize hW : World.setRow _ _ _ = W2
  have hB1 : W2.heap[w.heap.size]? = some (.cells (s.row (.slice p n m)).toArray 29 (0, 0)) := by
    rw [← hW, setRow_far _ _ (by omega), heap_alloc_old _ _ (by simp)]
    exact heap_alloc_new _ _
  have hB2 : W2.heap[w.heap.size + 1]? = some (.cells (s.row (.slice p n m)).toArray 29 (0, 0)) := by
    rw [← hW]
    exact setRow_heap _ _ _ _ _ _ (heap_alloc2_new _ _ _)
  have hbw : Below w.heap.size w W2 := by
    rw [← hW]
    exact below_setRow (((Below.refl _ _).alloc (Nat.le_refl _) _).alloc (by simp) _) (Nat.le_succ _) _
  clear hW
  have y18 := block18 hB2
  have z18 : W2.frozen? ⟨w.heap.size + 1, 18, none⟩ = false := by simp [World.frozen?, hB2]
  have Hb1 := Lib.hid hB1
  have Hb2 := Lib.hid hB2
  have Hbw := Lib.hid hbw
  clear hB1 hB2 hbw
  go_upto_region 5 with fail
  generalize hW3 : World.setCell W2 _ _ = W3
  have hC1 : W3.heap[w.heap.size]? = some (.cells (s.row (.slice p n m)).toArray 29 (0, 0)) := by
    rw [← hW3, set_other W2 ⟨w.heap.size + 1, 18, none⟩ (.slice none 0 0) (show w.heap.size ≠ w.heap.size + 1 by omega)]
    exact Hb1.out
  have hC2 : W3.heap[w.heap.size + 1]? = some (.cells (s.row (.slice none 0 0)).toArray 29 (0, 0)) := by
    rw [← hW3]
    exact set_block (i := 18) Hb2.out (.slice none 0 0)
  have hbw3 : Below w.heap.size w W3 := by
    rw [← hW3]
    exact set_below Hbw.out (Nat.le_succ _) _
  clear hW3 y18 z18
  obtain ⟨x0, -, -, -, x4, -, -, -, -, -, -, -, -, -, -, -, -, -, x18⟩ := block_all hC1
  obtain ⟨-, -, -, -, y4, -, -, -, -, -, -, -, -, -, -, -, -, -, -⟩ := block_all hC2
  have z4 : W3.frozen? ⟨w.heap.size + 1, 4, none⟩ = false := by simp [World.frozen?, hC2]
  have Hc1' := Lib.hid hC1
  have Hc2' := Lib.hid hC2
  have Hbw3 := Lib.hid hbw3
  have Hl3 := Lib.hid (later_below Hw.out hbw3)
  clear hC1 hC2 hbw3
  by_cases h8 : s.op = 8
  · have g8 : (s.op == (8 : Int)) = true := by rw [beq_iff_eq]; exact h8
    have H8 := Lib.hid h8
    clear h8
    go_wp2_with (go_at_call 122; refine (HcV.out _).mono ?_; rintro e w5 ⟨rfl, hw5⟩; rw [hw5]; clear hw5)
    go_ret
    refine ⟨?_, Hbw3.out⟩
    rw [← Hv.out, if_neg (c := 64 < d) (by have := Hd.out; omega), if_pos H8.out]
    rfl
  have g8 : (s.op == (8 : Int)) = false := by rw [beq_eq_false_iff_ne]; exact h8
  have H8 := Lib.hid h8
  clear h8
  by_cases h7 : s.op = 7
  · have g7 : (s.op == (7 : Int)) = true := by rw [beq_iff_eq]; exact h7
    have H7 := Lib.hid h7
    clear h7
    have hv2 : itemsB W s t.args = v := by
      rw [← Hv.out, if_neg (c := 64 < d) (by have := Hd.out; omega), if_neg H8.out, if_neg H6.out, if_pos H7.out]
    have cI := fun w hw => HcI.out H7.out w hw
    rw [hv2] at cI
    have HcI2 := Lib.hid cI
    clear cI hv2
    go_wp2_with (first
      | (go_at_call 122; refine (HcV.out _).mono ?_; rintro e w5 ⟨rfl, hw5⟩; rw [hw5]; clear hw5)
      | (go_at_call 125; refine (HcI2.out _ Hl3.out).mono ?_; rintro e w5 ⟨rfl, hb5⟩)
      | (refine wpList_load_row rfl 29 _ rfl w.heap.size rfl 29 (s.arr (.slice p n m)) (0, 0) _ Hc1'.out Tryz.underlying29 rfl size29 ?_))
    go_ret
    exact ⟨rfl, Hbw3.out.trans (hb5.mono Hbw3.out.size)⟩
  have g7 : (s.op == (7 : Int)) = false := by rw [beq_eq_false_iff_ne]; exact h7
  have H7 := Lib.hid h7
  clear h7
  by_cases h9 : levelF s.op = 9
  · have g9 : (levelF s.op == (9 : Int)) = true := by rw [beq_iff_eq]; exact h9
    have H9 := Lib.hid h9
    clear h9
    have hv2 : leafB W s n false = v := by
      rw [Hxn.out, ← Hv.out, if_neg (c := 64 < d) (by have := Hd.out; omega), if_neg H8.out, if_neg H6.out, if_neg H7.out, if_pos H9.out]
    have cL := fun p m w hw => HcL.out p m w hw
    rw [hv2] at cL
    have HcL2 := Lib.hid cL
    clear cL hv2
    go_wp2_with (first
      | (go_at_call 122; refine (HcV.out _).mono ?_; rintro e w5 ⟨rfl, hw5⟩; rw [hw5]; clear hw5)
      | (go_at_call 126; refine (HcL2.out _ _ _ Hl3.out).mono ?_; rintro e w5 ⟨rfl, hb5⟩)
      | (refine wpList_load_row rfl 29 _ rfl w.heap.size rfl 29 (s.arr (.slice p n m)) (0, 0) _ Hc1'.out Tryz.underlying29 rfl size29 ?_))
    go_ret
    exact ⟨rfl, Hbw3.out.trans (hb5.mono Hbw3.out.size)⟩
  have g9 : (levelF s.op == (9 : Int)) = false := by rw [beq_eq_false_iff_ne]; exact h9
  have H9 := Lib.hid h9
  clear h9
  obtain ⟨q, hq⟩ : ∃ q, Sz.sameB s 0 s.op ⟨#[]⟩ = q := ⟨_, rfl⟩
  rw [hq] at HcS0
  have Hq := Lib.hid hq
  clear hq
  cases q
  · have hv2 : false = v := by
      rw [← Hv.out, if_neg (c := 64 < d) (by have := Hd.out; omega), if_neg H8.out, if_neg H6.out, if_neg H7.out, if_neg H9.out, if_pos Hq.out]
    have Hv2 := Lib.hid hv2
    clear hv2
    go_wp2_with (first
      | (go_at_call 122; refine (HcV.out _).mono ?_; rintro e w5 ⟨rfl, hw5⟩; rw [hw5]; clear hw5)
      | (go_at_call 123; refine (HcS0.out _ Hl3.out).mono ?_; rintro e w5 ⟨rfl, hb5⟩)
      | (refine wpList_load_row rfl 29 _ rfl (w.heap.size + 1) rfl 29 (s.arr (.slice none 0 0)) (0, 0) _ Hc2'.out Tryz.underlying29 rfl size29 ?_)
      | (refine wpList_build' (by rfl) 29 _ rfl (bareA s.op ⟨#[]⟩) (by kernel_rfl) ?_))
    go_ret
    exact ⟨by rw [← Hv2.out]; rfl, Hbw3.out.trans (hb5.mono Hbw3.out.size)⟩
  by_cases h66 : levelF s.op = 6
  · rw [h66] at HcV
    have H66 := Lib.hid h66
    clear h66 g9
    by_cases hn1 : n = 1
    · have hja : 0 < t.args.length := by rw [← Hxn.out, hn1]; exact Nat.zero_lt_one
      obtain ⟨b, o, y, hpo, hy, hcl⟩ := HcK.out hja
      have hv2 : operandF F t.args[0] 6 (d + 1) = v := by
        rw [← Hv.out, if_neg (c := 64 < d) (by have := Hd.out; omega), if_neg H8.out, if_neg H6.out, if_neg H7.out, if_neg H9.out, if_neg (by rw [Hq.out]; decide), if_pos H66.out, dif_pos (by rw [← Hxn.out]; exact hn1)]
      have cO := fun w hw => HcO.out hy (by have := Hkw.out hja; omega) (by omega) (by have := Hd.out; omega) w hw
      rw [hv2] at cO
      have HcO2 : Hid (∀ w, Ck.Later W w → Calls Tryz.prog 127 #[.agg (y.s.arr (.slice y.p y.n y.m)), .int .i64 6, .int .i64 (d + 1)] w fun e w' => e = .returned (.bool v) ∧ Below w.heap.size w w') := Lib.hid cO
      have hC := hcl W3 Hl3.out
      have HC := Lib.hid hC
      have hbl : b < W3.heap.size := World.block_lt_of_cell? W3 _ (hC 0 _ rfl)
      have Hbl := Lib.hid hbl
      subst hpo
      subst hn1
      clear cO hv2 hC hcl hy hbl hja
      go_upto_region 18 with (first
        | (go_at_call 122; refine (HcV.out _).mono ?_; rintro e w5 ⟨rfl, hw5⟩; rw [hw5]; clear hw5)
        | (go_at_call 123; refine (HcS0.out _ Hl3.out).mono ?_; rintro e w5 ⟨rfl, hb5⟩; replace x18 := cell_keep hb5 x18)
        | (refine wpList_load_row rfl 29 _ rfl (w.heap.size + 1) rfl 29 (s.arr (.slice none 0 0)) (0, 0) _ Hc2'.out Tryz.underlying29 rfl size29 ?_)
        | (refine wpList_build' (by rfl) 29 _ rfl (bareA s.op ⟨#[]⟩) (by kernel_rfl) ?_))
      have HC5 := Lib.hid (HC.out.below (hb5.block b Hbl.out))
      have Hb5 := Lib.hid hb5
      have hA3 := Scal.arr_size y.s y.v
      clear hb5
      go_wp2_with (first
        | (go_at_call 127; refine (HcO2.out _ (later_below Hl3.out Hb5.out)).mono ?_; rintro e w6 ⟨rfl, hb6⟩)
        | (refine wpList_load_mid' (by rfl) 29 _ rfl b o rfl (y.s.row y.v) _ (by have h9 := HC5.out; rw [Nat.zero_mul, Nat.add_zero] at h9; exact h9) Tryz.underlying29 rfl size29 ?_))
      go_ret
      exact ⟨rfl, Hbw3.out.trans ((Hb5.out.trans (hb6.mono Hb5.out.size)).mono Hbw3.out.size)⟩
    · have hnz : ((n : Int) == 1) = false := by rw [beq_eq_false_iff_ne]; omega
      have hnz1 : ((n : Int) = 1) = False := eq_false (by omega)
      have hnz2 : (n = 1) = False := eq_false hn1
      have hv2 : false = v := by
        rw [← Hv.out, if_neg (c := 64 < d) (by have := Hd.out; omega), if_neg H8.out, if_neg H6.out, if_neg H7.out, if_neg H9.out, if_neg (by rw [Hq.out]; decide), if_pos H66.out, dif_neg (by rw [← Hxn.out]; exact hn1)]
      have Hv2 := Lib.hid hv2
      clear hv2 hn1
      go_wp2_with (first
        | (go_at_call 122; refine (HcV.out _).mono ?_; rintro e w5 ⟨rfl, hw5⟩; rw [hw5]; clear hw5)
        | (go_at_call 123; refine (HcS0.out _ Hl3.out).mono ?_; rintro e w5 ⟨rfl, hb5⟩; replace x18 := cell_keep hb5 x18)
        | (refine wpList_load_row rfl 29 _ rfl (w.heap.size + 1) rfl 29 (s.arr (.slice none 0 0)) (0, 0) _ Hc2'.out Tryz.underlying29 rfl size29 ?_)
        | (refine wpList_build' (by rfl) 29 _ rfl (bareA s.op ⟨#[]⟩) (by kernel_rfl) ?_))
      go_ret
      exact ⟨by rw [← Hv2.out]; rfl, Hbw3.out.trans (hb5.mono Hbw3.out.size)⟩
  have g66 : (levelF s.op == (6 : Int)) = false := by rw [beq_eq_false_iff_ne]; exact h66
  have H66 := Lib.hid h66
  clear h66
  have hv2 : lineF F t (levelF s.op) d = v := by
    rw [← Hv.out, if_neg (c := 64 < d) (by have := Hd.out; omega), if_neg H8.out, if_neg H6.out, if_neg H7.out, if_neg H9.out, if_neg (by rw [Hq.out]; decide), if_neg H66.out]
  have cF : ∀ w, Ck.Later W w → Calls Tryz.prog 128 #[.agg (s.arr (.slice p n m)), .int .i64 (levelF s.op), .int .i64 d] w fun e w' => e = .returned (.bool v) ∧ Below w.heap.size w w' := by
    by_cases h11 : s.op = 11
    · intro w hw
      have c := Hc1.out h11 (by have := Hd.out; omega) w hw
      have e5 : levelF s.op = 5 := by rw [h11]; rfl
      rw [e5] at hv2 ⊢
      rw [hv2] at c
      exact c
    · intro w hw
      have c := Hc2.out h11 (by have := Hd.out; omega) w hw
      rw [hv2] at c
      exact c
  have HcF := Lib.hid cF
  clear cF hv2
  go_wp2_with (first
    | (go_at_call 122; refine (HcV.out _).mono ?_; rintro e w5 ⟨rfl, hw5⟩; rw [hw5]; clear hw5)
    | (go_at_call 123; refine (HcS0.out _ Hl3.out).mono ?_; rintro e w5 ⟨rfl, hb5⟩)
    | (go_at_call 128; refine (HcF.out _ (later_below Hl3.out hb5)).mono ?_; rintro e w6 ⟨rfl, hb6⟩)
    | (refine wpList_load_row rfl 29 _ rfl (w.heap.size + 1) rfl 29 (s.arr (.slice none 0 0)) (0, 0) _ Hc2'.out Tryz.underlying29 rfl size29 ?_)
    | (refine wpList_build' (by rfl) 29 _ rfl (bareA s.op ⟨#[]⟩) (by kernel_rfl) ?_)
    | (refine wpList_load_row rfl 29 _ rfl w.heap.size rfl 29 (s.arr (.slice p n m)) (0, 0) _ ((hb5.block _ (lt_of_some Hc1'.out)).trans Hc1'.out) Tryz.underlying29 rfl size29 ?_))
  go_ret
  exact ⟨rfl, Hbw3.out.trans ((hb5.trans (hb6.mono hb5.size)).mono Hbw3.out.size)⟩
theorem fits_all {W : World} (hg : Ck.Consts W) (hT : Ck.Tabs W) : ∀ N, N ≤ 16777216 → FitsAt W (fitsF W N) N
  | 0, _ => fun x t _ hwt => absurd t.wt_pos (by omega)
  | N + 1, hN => fun x t hx hwt d h0 h1 w hw => fits_step hg hT (fits_all hg hT N (by omega)) (by omega) hx hwt d h0 h1 w hw
open Go Go.RowKit
set_option maxRecDepth 100000
inductive Pr : TermD → Prop
  | leaf {t : TermD} : LeafKind t.s → Pr t
  | call {t : TermD} : t.s.op = 6 → (∀ u ∈ t.args, Pr u) → Pr t
  | arr {t : TermD} : t.s.op = 7 → 1 ≤ t.s.rw → 1 ≤ t.args.length → (t.args.length : Int) % t.s.rw = 0 → (∀ u ∈ t.args, u.s.op = 6 ∨ LeafKind u.s) → Pr t
  | one {t u : TermD} : t.args[0]? = some u → t.s.op = 9 ∨ t.s.op = 10 ∨ t.s.op = 11 → Pr u → Pr t
  | two {t u v : TermD} : t.args[0]? = some u → t.args[1]? = some v → 12 ≤ t.s.op → t.s.op ≤ 25 → Pr u → Pr v → Pr t
theorem level_two {k : Int} {l : Int} (h : levelF k = l) (h9 : l ≠ 9) (h6 : l ≠ 6) (h5 : l ≠ 5) : 12 ≤ k ∧ k ≤ 25 := by
  unfold levelF at h
  repeat' split at h
  all_goals omega
theorem level_five {k : Int} (h : levelF k = 5) : k = 11 := by
  unfold levelF at h
  repeat' split at h
  all_goals omega
theorem level_six {k : Int} (h : levelF k = 6) : k = 9 ∨ k = 10 := by
  unfold levelF at h
  repeat' split at h
  all_goals omega
theorem same_op {s : Scal} {n : Nat} {k : Int} {nm : ByteArray} (h : Sz.sameB s n k nm = true) : s.op = k := by
  unfold Sz.sameB at h
  simp only [Bool.and_eq_true, decide_eq_true_eq] at h
  exact h.1.1.1.1.1.1.1
theorem operand_true {F : TermD → Int → Bool} {t : TermD} {l d : Int} (h : operandF F t l d = true) : ∃ d', F t d' = true := by
  unfold operandF at h
  split at h
  · simp only [Bool.and_eq_true] at h
    exact ⟨_, h.2⟩
  · exact ⟨_, h⟩
theorem kid_is {W : World} {x : RV} {t u : TermD} (h : x.Is W t) (hu : u ∈ t.args) : ∃ y : RV, y.Is W u := by
  obtain ⟨j, hj, rfl⟩ := List.getElem_of_mem hu
  obtain ⟨_, _, y, _, hy, _⟩ := h.kid hj
  exact ⟨y, hy⟩
theorem line_pr {W : World} {F : TermD → Int → Bool} (hF : ∀ (x : RV) (t : TermD), x.Is W t → ∀ d, F t d = true → Pr t) {l d many : Int} (hm : (many = 1 ∧ l = 5) ∨ (many = 2 ∧ l ≠ 9 ∧ l ≠ 6 ∧ l ≠ 5)) :
    ∀ (g : Nat) (x : RV) (u : TermD) (ts : List TermD) (n : Int), x.Is W u → (∀ r ∈ ts, ∃ y : RV, y.Is W r) → lineGo F l d many g u ts n = true → Pr u ∧ ∀ r ∈ ts, Pr r
  | 0, _, _, _, _, _, _, h => by cases h
  | g + 1, x, u, ts, n, hx, hts, h => by
    by_cases hlev : levelF u.s.op = l
    · by_cases hb : (u.args.length : Int) = many ∧ Sz.sameB u.s 0 u.s.op ⟨#[]⟩ = true
      · have h0 : 0 < u.args.length := by rcases hm with hm | hm <;> omega
        rw [lineGo_on hlev hb h0] at h
        obtain ⟨y, hy⟩ := kid_is hx (List.getElem_mem h0)
        rcases hm with ⟨hm, hl5⟩ | ⟨hm, hl9, hl6, hl5⟩
        · rw [if_neg (by omega)] at h
          obtain ⟨h1, h2⟩ := line_pr hF (.inl ⟨hm, hl5⟩) g y _ ts _ hy hts h
          exact ⟨.one (List.getElem?_eq_getElem h0) (.inr (.inr (level_five (by rw [hlev, hl5])))) h1, h2⟩
        · have h1 : 1 < u.args.length := by omega
          have e : (u.args.drop 1).take 1 = [u.args[1]] := by
            rw [List.drop_eq_getElem_cons h1]
            rfl
          rw [if_pos hm, e] at h
          obtain ⟨ha, hc⟩ := line_pr hF (.inr ⟨hm, hl9, hl6, hl5⟩) g y _ _ _ hy (fun r hr => by
            rcases List.mem_append.1 hr with hr | hr
            · exact hts r hr
            · rw [List.mem_singleton.1 hr]
              exact kid_is hx (List.getElem_mem h1)) h
          obtain ⟨l1, l2⟩ := level_two hlev hl9 hl6 hl5
          exact ⟨.two (List.getElem?_eq_getElem h0) (List.getElem?_eq_getElem h1) l1 l2 ha (hc _ (List.mem_append.2 (.inr (List.mem_singleton.2 rfl)))), fun r hr => hc r (List.mem_append.2 (.inl hr))⟩
      · rw [lineGo_bad hlev hb] at h
        cases h
    · rw [lineGo_stop hlev] at h
      unfold endB at h
      simp only [Bool.and_eq_true] at h
      obtain ⟨d1, h1⟩ := operand_true h.1.1
      refine ⟨hF x u hx d1 h1, fun r hr => ?_⟩
      have h2 := h.2
      unfold rightsB at h2
      have h2 := of_decide_eq_true h2
      have hr2 : r ∈ ts.reverse := List.mem_reverse.2 hr
      obtain ⟨i, hi, rfl⟩ := List.getElem_of_mem hr2
      obtain ⟨d2, h3⟩ := operand_true (h2 i hi)
      obtain ⟨y, hy⟩ := hts _ hr
      exact hF y _ hy d2 h3
theorem fits_pr {W : World} (hg : Ck.Consts W) (hT : Ck.Tabs W) : ∀ (N : Nat) (x : RV) (t : TermD), x.Is W t → ∀ d, fitsF W N t d = true → Pr t
  | 0, _, _, _, _, h => by cases h
  | N + 1, x, t, hx, d, h => by
    have ih := fits_pr hg hT N
    have h : fitsS W (fitsF W N) t d = true := h
    unfold fitsS at h
    by_cases h1 : 64 < d
    · rw [if_pos h1] at h; cases h
    rw [if_neg h1] at h
    by_cases h8 : t.s.op = 8
    · rw [if_pos h8] at h; cases h
    rw [if_neg h8] at h
    by_cases h6 : t.s.op = 6
    · rw [if_pos h6] at h
      simp only [Bool.and_eq_true] at h
      have h2 := h.2
      unfold argsB at h2
      have h2 := of_decide_eq_true h2
      refine .call h6 fun u hu => ?_
      have h3 := h2.2 u hu
      obtain ⟨y, hy⟩ := kid_is hx hu
      unfold argB at h3
      split at h3
      · exact .leaf ((leafB_spec hg hT (by rw [hy.s]; exact hy.ok) _ _).1 h3)
      · exact ih y u hy _ h3
    rw [if_neg h6] at h
    by_cases h7 : t.s.op = 7
    · rw [if_pos h7] at h
      unfold itemsB at h
      have h := of_decide_eq_true h
      refine .arr h7 h.2.1 h.2.2.1 h.2.2.2.2.1 fun u hu => ?_
      have h3 := h.2.2.2.2.2 u hu
      obtain ⟨y, hy⟩ := kid_is hx hu
      unfold itemB at h3
      simp only [Bool.or_eq_true, Bool.and_eq_true] at h3
      rcases h3 with (h3 | h3) | h3
      · exact .inl (same_op h3)
      · exact .inl (same_op h3)
      · exact .inr ((leafB_spec hg hT (by rw [hy.s]; exact hy.ok) _ _).1 h3.2)
    rw [if_neg h7] at h
    by_cases h9 : levelF t.s.op = 9
    · rw [if_pos h9] at h
      exact .leaf ((leafB_spec hg hT (by rw [hx.s]; exact hx.ok) _ _).1 h)
    rw [if_neg h9] at h
    by_cases hq : Sz.sameB t.s 0 t.s.op ⟨#[]⟩ = false
    · rw [if_pos hq] at h; cases h
    rw [if_neg hq] at h
    by_cases h66 : levelF t.s.op = 6
    · rw [if_pos h66] at h
      split at h
      · rename_i hl
        obtain ⟨d2, h2⟩ := operand_true h
        have h0 : 0 < t.args.length := by omega
        obtain ⟨y, hy⟩ := kid_is hx (List.getElem_mem h0)
        refine .one (List.getElem?_eq_getElem h0) ?_ (ih y _ hy d2 h2)
        rcases level_six h66 with h | h
        · exact .inl h
        · exact .inr (.inl h)
      · cases h
    rw [if_neg h66] at h
    unfold lineF at h
    refine (line_pr ih ?_ _ x t [] 0 hx (fun r hr => by cases hr) h).1
    by_cases h11 : t.s.op = 11
    · exact .inl ⟨if_pos h11, by rw [h11]; rfl⟩
    · exact .inr ⟨if_neg h11, h9, h66, fun h5 => h11 (level_five h5)⟩
end Go.Proofs.YtkeibmkcgnppeaaGreatDoor

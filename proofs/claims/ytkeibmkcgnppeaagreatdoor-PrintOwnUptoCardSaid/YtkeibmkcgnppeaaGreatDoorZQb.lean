/- The law PrintOwn answers true. -/
import Derived.Test.YtkeibmkcgnppeaaGreatDoorZPzf
import Derived.Test.YtkeibmkcgnppeaaGreatDoorZHt
import Derived.Test.YtkeibmkcgnppeaaGreatDoorZPc
import Derived.Test.YtkeibmkcgnppeaaGreatDoorZGa
set_option maxHeartbeats 32000000
set_option linter.unusedSimpArgs false
set_option linter.unusedVariables false
namespace Go.Proofs.YtkeibmkcgnppeaaGreatDoor
open Go Go.RowKit
set_option maxRecDepth 100000
theorem formula_call {W : World} {H L : Nat → Nat} (hg : Ck.Consts W) (hT : Ck.Tabs W) (hn : NumW W H L) (hTab : TabOk H L) {x : RV} {t : TermD} (hx : x.Is W t) (hwt : t.wt ≤ 16777216) :
    ∃ (tx : ByteArray) (k : Int), ∀ w, Ck.Later W w → Calls Tryz.prog 6 #[.agg (x.s.arr (.slice x.p x.n x.m))] w fun e w' => e = .returned (.tuple #[.string tx, .int .i64 k]) ∧ Below w.heap.size w w' := by
  obtain ⟨tx, k, htx, cW⟩ := written_call hg hT hn hTab hx hwt
  obtain ⟨s, p, n, m⟩ := x
  simp only at cW ⊢
  have HcW := Lib.hid cW
  have hA1 := Scal.arr_size s (.slice p n m)
  clear cW hx hg hT hn
  by_cases hk : k = 0
  · subst hk
    obtain ⟨u, hu⟩ : ∃ u, (({ data := #[61] } : ByteArray) ++ tx) = u := ⟨_, rfl⟩
    have hus : u.size ≤ 8192 := by
      rw [← hu, ByteArray.size_append]
      have : (ByteArray.mk #[61]).size = 1 := rfl
      omega
    refine ⟨u, 0, fun w hw => ?_⟩
    go_enter Tryz.func6, Tryz.ntmps6
    go_upto_region 1 with fail
    generalize hW1 : World.alloc w _ = W1
    have hbc : Below w.heap.size w W1 := by rw [← hW1]; exact (Below.refl _ _).alloc (Nat.le_refl _) _
    have hC : W1.heap[w.heap.size]? = some (.cells (s.row (.slice p n m)).toArray 29 (0, 0)) := by rw [← hW1]; exact heap_alloc_new _ _
    clear hW1
    have Hlc := Lib.hid (later_below hw hbc)
    have HC := Lib.hid hC
    have Hbc := Lib.hid hbc
    clear hw hC hbc
    go_wp2_with (first
      | (go_at_call 15; refine (HcW.out _ Hlc.out).mono ?_; rintro e w5 ⟨rfl, hb5⟩)
      | (refine wpList_load_row rfl 29 _ rfl w.heap.size rfl 29 (s.arr (.slice p n m)) (0, 0) _ HC.out Tryz.underlying29 rfl size29 ?_))
    go_ret2
    exact ⟨rfl, Hbc.out.trans (hb5.mono Hbc.out.size)⟩
  · have hkz : (k == (0 : Int)) = false := by rw [beq_eq_false_iff_ne]; exact hk
    refine ⟨⟨#[]⟩, k, fun w hw => ?_⟩
    go_enter Tryz.func6, Tryz.ntmps6
    go_upto_region 1 with fail
    generalize hW1 : World.alloc w _ = W1
    have hbc : Below w.heap.size w W1 := by rw [← hW1]; exact (Below.refl _ _).alloc (Nat.le_refl _) _
    have hC : W1.heap[w.heap.size]? = some (.cells (s.row (.slice p n m)).toArray 29 (0, 0)) := by rw [← hW1]; exact heap_alloc_new _ _
    clear hW1
    have Hlc := Lib.hid (later_below hw hbc)
    have HC := Lib.hid hC
    have Hbc := Lib.hid hbc
    clear hw hC hbc
    go_wp2_with (first
      | (go_at_call 15; refine (HcW.out _ Hlc.out).mono ?_; rintro e w5 ⟨rfl, hb5⟩)
      | (refine wpList_load_row rfl 29 _ rfl w.heap.size rfl 29 (s.arr (.slice p n m)) (0, 0) _ HC.out Tryz.underlying29 rfl size29 ?_))
    go_ret2
    exact ⟨rfl, Hbc.out.trans (hb5.mono Hbc.out.size)⟩
theorem law_start {W : World} {s : Scal} {args : List TermD} {p : Option Addr} {m : Nat} (h : TermIs W (Low W.heap.size) (.mk s args) ((s.row (.slice p args.length m)).map some)) {V : World} (hb : Below W.heap.size W V) :
    TermIs V (Low V.heap.size) (.mk s args) ((s.row (.slice p args.length m)).map some) := (h.keep hb).mono hb.size
theorem law3 {W : World} {H L : Nat → Nat} (hg : Ground W H L) (hTab : TabOk H L) (hT : Ck.Tabs W) {s : Scal} {args : List TermD} {p : Option Addr} {m : Nat} (hterm : TermIs W (Low W.heap.size) (.mk s args) ((s.row (.slice p args.length m)).map some)) (hwt : (TermD.mk s args).wt ≤ 1048576) :
    Calls Tryz.prog 3 #[.agg (s.arr (.slice p args.length m))] W fun e w' => e = .returned (.bool true) ∧ Below W.heap.size W w' := by
  have hx : RV.Is W ⟨s, p, args.length, m⟩ (.mk s args) := ⟨args, rfl, rfl, hterm⟩
  obtain ⟨tx, k, cF⟩ := formula_call (show Ck.Consts W from hg.cs) hT hg.num hTab hx (by omega)
  simp only at cF
  have HcC := Lib.hid (clone_call hterm s args p m rfl rfl)
  have HB : Hid (∀ w, Ck.Later W w → Calls Tryz.prog 7 #[] w fun e w' => e = .returned (.bool true) ∧ Below w.heap.size w w') := Lib.hid (fun w hw => begun_call (hg.cs.later (show Later W w from hw)))
  have HcF := Lib.hid cF
  have Ht := Lib.hid hterm
  have hA1 := Scal.arr_size s (.slice p args.length m)
  clear cF hg hT hx hterm hwt hTab
  go_enter Tryz.func3, Tryz.ntmps3
  go_upto_region 1 with fail
  generalize hW1 : World.alloc W _ = W1
  have hbc : Below W.heap.size W W1 := by rw [← hW1]; exact (Below.refl _ _).alloc (Nat.le_refl _) _
  have hC : W1.heap[W.heap.size]? = some (.cells (s.row (.slice p args.length m)).toArray 29 (0, 0)) := by rw [← hW1]; exact heap_alloc_new _ _
  clear hW1
  have HC := Lib.hid hC
  have Hbc := Lib.hid hbc
  clear hC hbc
  go_upto_region 2 with (first
    | (go_at_call 5; refine (HcC.out _ Hbc.out).mono ?_; rintro e w2 ⟨p2, m2, rfl, ht2, hb2⟩; have hA2 := Scal.arr_size s (.slice p2 args.length m2); have Ht2 := Lib.hid ht2; have Hb2 := Lib.hid hb2; clear ht2 hb2)
    | (refine wpList_load_row rfl 29 _ rfl W.heap.size rfl 29 (s.arr (.slice p args.length m)) (0, 0) _ HC.out Tryz.underlying29 rfl size29 ?_)
    | (refine wpList_store_row rfl 29 _ _ rfl w2.heap.size (s.arr (.slice p2 args.length m2)) rfl rfl 29 zeroTerm (heap_alloc_new _ _) size29 rfl (Scal.arr_one _ _ _ _) ?_))
  generalize hV : World.setRow _ _ _ = V
  have hV2 : V.heap[w2.heap.size]? = some (.cells (s.row (.slice p2 args.length m2)).toArray 29 (0, 0)) := by
    rw [← hV]
    exact setRow_heap _ _ _ _ _ _ (heap_alloc_new _ _)
  have hbV : Below w2.heap.size w2 V := by
    rw [← hV]
    exact below_setRow ((Below.refl _ _).alloc (Nat.le_refl _) _) (Nat.le_refl _) _
  clear hV
  have hlt2 := lt_of_some HC.out
  have hV1 : V.heap[W.heap.size]? = some (.cells (s.row (.slice p args.length m)).toArray 29 (0, 0)) :=
    (hbV.block _ (Nat.lt_of_lt_of_le hlt2 Hb2.out.size)).trans ((Hb2.out.block _ hlt2).trans HC.out)
  have hWV : Below W.heap.size W V := Hbc.out.trans ((Hb2.out.trans (hbV.mono Hb2.out.size)).mono Hbc.out.size)
  have ht1 := law_start Ht.out hWV
  have ht2 : TermIs V (Low V.heap.size) (.mk s args) ((s.row (.slice p2 args.length m2)).map some) := (Ht2.out.low.keep hbV).mono hbV.size
  have HsS := Lib.hid (same13_call ht1 _ ht2 s args p m p2 m2 rfl rfl rfl)
  have HsC := Lib.hid (same13_call ht2 _ ht2 s args p2 m2 p2 m2 rfl rfl rfl)
  have HV1 := Lib.hid hV1
  have HV2 := Lib.hid hV2
  have HWV := Lib.hid hWV
  have HlV : Hid (Ck.Later W V) := Lib.hid (later_below (show Ck.Later W W from ⟨Nat.le_refl _, fun _ _ => rfl⟩) hWV)
  have hsv1 := lt_of_some hV1
  have hsv2 := lt_of_some hV2
  clear hV1 hV2 hbV hWV ht1 ht2
  go_upto_region 4 with (first
    | (go_at_call 6; refine (HcF.out _ (later_below HlV.out hb3)).mono ?_; rintro e w4 ⟨rfl, hb4⟩)
    | (go_at_call 6; refine (HcF.out _ HlV.out).mono ?_; rintro e w3 ⟨rfl, hb3⟩)
    | (refine wpList_load_row rfl 29 _ rfl W.heap.size rfl 29 (s.arr (.slice p args.length m)) (0, 0) _ ((hb3.block _ hsv1).trans HV1.out) Tryz.underlying29 rfl size29 ?_)
    | (refine wpList_load_row rfl 29 _ rfl W.heap.size rfl 29 (s.arr (.slice p args.length m)) (0, 0) _ HV1.out Tryz.underlying29 rfl size29 ?_))
  have hV4 : Below V.heap.size V w4 := hb3.trans (hb4.mono hb3.size)
  have d1 : Cells w4.drew W.heap.size 0 s (.slice p args.length m) := cells_block ((hV4.block _ hsv1).trans HV1.out)
  have d2 : Cells w4.drew w2.heap.size 0 s (.slice p2 args.length m2) := cells_block ((hV4.block _ hsv2).trans HV2.out)
  have hV4d : Below V.heap.size V w4.drew := hV4.drew
  have Hl4 : Hid (Ck.Later W w4.drew) := Lib.hid (later_below HlV.out hV4d)
  have below_to : ∀ (u : World), Below w4.drew.heap.size w4.drew u → Below V.heap.size V u := fun u h => hV4d.trans (h.mono hV4d.size)
  have below_to2 : ∀ (u v : World), Below w4.drew.heap.size w4.drew u → Below u.heap.size u v → Below V.heap.size V v := fun u v h h2 => (below_to u h).trans (h2.mono (below_to u h).size)
  have below_end : ∀ (u v y : World), Below w4.drew.heap.size w4.drew u → Below u.heap.size u v → Below v.heap.size v y → Below W.heap.size W y := fun u v y h h2 h3 => HWV.out.trans (((below_to2 u v h h2).trans (h3.mono (below_to2 u v h h2).size)).mono HWV.out.size)
  have Hto := Lib.hid below_to
  have Hto2 := Lib.hid below_to2
  have Hend := Lib.hid below_end
  clear hb3 hb4 hV4 hV4d below_to below_to2 below_end
  refine wp_region_noPanic ?_
  refine wp_region_tail (S := fun w' => Cells w' W.heap.size 0 s (.slice p args.length m) ∧ Cells w' w2.heap.size 0 s (.slice p2 args.length m2)) (tail := (fun _ => false)) (by kernel_rfl) ⟨d1, d2⟩ (fun hHeld => ?_)
  refine wpAnyT_step (i := 0) (by kernel_rfl) rfl (fun K hK => ?_)
  (go_simp; go_at_call 7; refine (HB.out _ Hl4.out).mono ?_; rintro e w5 ⟨rfl, hb5⟩; (try go_wp2_with fail))
  refine hK.out _ _ ?_ (fun hHeld => ?_)
  · exact ⟨Cells.keep d1 hb5, Cells.keep d2 hb5⟩
  clear hK K
  (try simp only [Act.put, sA, s0, s1])
  refine tk 1 (.bool true) rfl (Or.inl ⟨by kernel_rfl, ?_⟩) (by assumption) ?_
  · (intro w hSw; (try dsimp only at hSw); go_simp; try with_reducible rfl; try simp)
  (try simp only [Act.put, sA, s0, s1])
  refine tk 2 (.string tx) rfl (Or.inl ⟨by kernel_rfl, ?_⟩) (by assumption) ?_
  · (intro w hSw; (try dsimp only at hSw); go_simp; try with_reducible rfl; try simp)
  (try simp only [Act.put, sA, s0, s1])
  refine tk 3 (.string tx) rfl (Or.inl ⟨by kernel_rfl, ?_⟩) (by assumption) ?_
  · (intro w hSw; (try dsimp only at hSw); go_simp; try with_reducible rfl; try simp)
  (try simp only [Act.put, sA, s0, s1])
  refine tk 4 (.bool true) rfl (Or.inl ⟨by kernel_rfl, ?_⟩) (by assumption) ?_
  · (intro w hSw; (try dsimp only at hSw); go_simp; try with_reducible rfl; try simp)
  (try simp only [Act.put, sA, s0, s1])
  refine tk 5 (.bool true) rfl (Or.inl ⟨by kernel_rfl, ?_⟩) (by assumption) ?_
  · (intro w hSw; (try dsimp only at hSw); go_simp; try with_reducible rfl; try simp)
  (try simp only [Act.put, sA, s0, s1])
  refine tk 6 (.bool true) rfl (Or.inl ⟨by kernel_rfl, ?_⟩) (by assumption) ?_
  · (intro w hSw; (try dsimp only at hSw); go_simp; try with_reducible rfl; try simp)
  (try simp only [Act.put, sA, s0, s1])
  refine tk 7 (.int .i64 k) rfl (Or.inl ⟨by kernel_rfl, ?_⟩) (by assumption) ?_
  · (intro w hSw; (try dsimp only at hSw); go_simp; try with_reducible rfl; try simp)
  (try simp only [Act.put, sA, s0, s1])
  refine tk 8 (.int .i64 k) rfl (Or.inl ⟨by kernel_rfl, ?_⟩) (by assumption) ?_
  · (intro w hSw; (try dsimp only at hSw); go_simp; try with_reducible rfl; try simp)
  (try simp only [Act.put, sA, s0, s1])
  refine tk 9 (.bool true) rfl (Or.inl ⟨by kernel_rfl, ?_⟩) (by assumption) ?_
  · (intro w hSw; (try dsimp only at hSw); go_simp; try with_reducible rfl; try simp)
  (try simp only [Act.put, sA, s0, s1])
  refine tk 10 (.bool true) rfl (Or.inl ⟨by kernel_rfl, ?_⟩) (by assumption) ?_
  · (intro w hSw; (try dsimp only at hSw); go_simp; try with_reducible rfl; try simp)
  (try simp only [Act.put, sA, s0, s1])
  refine tk 11 (.bool true) rfl (Or.inl ⟨by kernel_rfl, ?_⟩) (by assumption) ?_
  · (intro w hSw; (try dsimp only at hSw); go_simp; try with_reducible rfl; try simp)
  (try simp only [Act.put, sA, s0, s1])
  refine tk 12 (.agg (s.row (.slice p args.length m)).toArray) rfl (yieldsIf_load_mid (by kernel_rfl) 29 (.tmp 1) rfl W.heap.size 0 (by kernel_rfl) (s.row (.slice p args.length m)) _ (fun w hSw => hSw.1) Tryz.underlying29 rfl size29) (by assumption) ?_
  (try simp only [Act.put, sA, s0, s1])
  refine tk 13 (.agg (s.row (.slice p2 args.length m2)).toArray) rfl (yieldsIf_load_mid (by kernel_rfl) 29 (.tmp 3) rfl w2.heap.size 0 (by kernel_rfl) (s.row (.slice p2 args.length m2)) _ (fun w hSw => hSw.2) Tryz.underlying29 rfl size29) (by assumption) ?_
  (try simp only [Act.put, sA, s0, s1])
  refine tk 15 (.agg (s.row (.slice p2 args.length m2)).toArray) rfl (yieldsIf_load_mid (by kernel_rfl) 29 (.tmp 3) rfl w2.heap.size 0 (by kernel_rfl) (s.row (.slice p2 args.length m2)) _ (fun w hSw => hSw.2) Tryz.underlying29 rfl size29) (by assumption) ?_
  (try simp only [Act.put, sA, s0, s1])
  refine tk 16 (.agg (s.row (.slice p2 args.length m2)).toArray) rfl (yieldsIf_load_mid (by kernel_rfl) 29 (.tmp 3) rfl w2.heap.size 0 (by kernel_rfl) (s.row (.slice p2 args.length m2)) _ (fun w hSw => hSw.2) Tryz.underlying29 rfl size29) (by assumption) ?_
  (try simp only [Act.put, sA, s0, s1])
  refine wpAnyT_step (i := 14) (by kernel_rfl) rfl (fun K hK => ?_)
  (go_simp; go_at_call 8; refine (HsS.out _ (Hto.out _ hb5)).mono ?_; rintro e w6 ⟨rfl, hb6⟩; (try go_wp2_with fail))
  refine hK.out _ _ ?_ (fun hHeld => ?_)
  · exact ⟨Cells.keep (Cells.keep d1 hb5) hb6, Cells.keep (Cells.keep d2 hb5) hb6⟩
  clear hK K
  (try simp only [Act.put, sA, s0, s1])
  refine wpAnyT_step (i := 17) (by kernel_rfl) rfl (fun K hK => ?_)
  (go_simp; go_at_call 8; refine (HsC.out _ (Hto2.out _ _ hb5 hb6)).mono ?_; rintro e w7 ⟨rfl, hb7⟩; (try go_wp2_with fail))
  refine hK.out _ _ ?_ (fun hHeld => ?_)
  · exact ⟨Cells.keep (Cells.keep (Cells.keep d1 hb5) hb6) hb7, Cells.keep (Cells.keep (Cells.keep d2 hb5) hb6) hb7⟩
  clear hK K
  (try simp only [Act.put, sA, s0, s1])
  refine tk 18 (.bool true) rfl (Or.inl ⟨by kernel_rfl, ?_⟩) (by assumption) ?_
  · (intro w hSw; (try dsimp only at hSw); go_simp; try with_reducible rfl; try simp)
  (try simp only [Act.put, sA, s0, s1])
  refine tk 19 (.bool true) rfl (Or.inl ⟨by kernel_rfl, ?_⟩) (by assumption) ?_
  · (intro w hSw; (try dsimp only at hSw); go_simp; try with_reducible rfl; try simp)
  (try simp only [Act.put, sA, s0, s1])
  refine wpAnyT_step (i := 20) (by kernel_rfl) rfl (fun K hK => ?_)
  go_simp
  refine hK.out _ _ ?_ (fun hHeld => ?_)
  · exact ⟨Cells.keep (Cells.keep (Cells.keep d1 hb5) hb6) hb7, Cells.keep (Cells.keep (Cells.keep d2 hb5) hb6) hb7⟩
  clear hK K
  (try simp only [Act.put, sA, s0, s1])
  refine wpAnyT_done (by kernel_rfl) ?_ _
  refine NoPanic.normal ?_
  all_goals (
    go_wp2_with fail
    go_ret
    exact ⟨rfl, Hend.out _ _ _ hb5 hb6 hb7⟩)
end Go.Proofs.YtkeibmkcgnppeaaGreatDoor

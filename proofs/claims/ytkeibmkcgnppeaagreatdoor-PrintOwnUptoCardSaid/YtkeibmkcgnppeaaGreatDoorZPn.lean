/- A reference s test; a leaf s test. -/
import Derived.Test.YtkeibmkcgnppeaaGreatDoorZPk
import Derived.Test.YtkeibmkcgnppeaaGreatDoorZPm
set_option maxHeartbeats 32000000
set_option linter.unusedSimpArgs false
set_option linter.unusedVariables false
namespace Go.Proofs.YtkeibmkcgnppeaaGreatDoor
open Go Go.RowKit
set_option maxRecDepth 100000
theorem run_store_flt3 {P : Program} {w : World} {a : Addr} {m : Mode} (k : FloatKind) (b : Nat) : (store a (.float k b) m).run P w = stored P w a (.float k b) m := run_store P w a _ m rfl
theorem later_below {W w w' : World} (h : Ck.Later W w) (hb : Below w.heap.size w w') : Ck.Later W w' := show Later W w' from (show Later W w from h).below hb
def Scal.ref (s : Scal) : List Value := [.string s.rs, .string s.rt, .bool s.rf, .bool s.ra, .int .i64 s.a0, .int .i64 s.a1, .bool s.a2, .bool s.a3, .int .i64 s.b0, .int .i64 s.b1, .bool s.b2, .bool s.b3]
theorem size24 : (Tryz.prog.info? 24).map (·.size) = some 4 := by kernel_rfl
theorem size26 : (Tryz.prog.info? 26).map (·.size) = some 12 := by kernel_rfl
theorem empty_iff (t : ByteArray) : t.toList.isEmpty = decide (t.size = 0) := by
  rw [Bool.eq_iff_iff, decide_eq_true_eq, ByteArray.toList_eq, List.isEmpty_iff_length_eq_zero]
  exact Iff.rfl
theorem range4 {w : World} {b o : Nat} {v0 v1 v2 v3 : Value} (h0 : w.cell? ⟨b, o, none⟩ = some v0) (h1 : w.cell? ⟨b, o + 1, none⟩ = some v1) (h2 : w.cell? ⟨b, o + 2, none⟩ = some v2) (h3 : w.cell? ⟨b, o + 3, none⟩ = some v3) : w.rangeAt b o [v0, v1, v2, v3] := by
  intro j u hu
  match j, hu with
  | 0, hu => simp only [List.getElem?_cons_zero, Option.some.injEq] at hu; subst hu; exact h0
  | 1, hu => simp only [List.getElem?_cons_succ, List.getElem?_cons_zero, Option.some.injEq] at hu; subst hu; exact h1
  | 2, hu => simp only [List.getElem?_cons_succ, List.getElem?_cons_zero, Option.some.injEq] at hu; subst hu; exact h2
  | 3, hu => simp only [List.getElem?_cons_succ, List.getElem?_cons_zero, Option.some.injEq] at hu; subst hu; exact h3
  | j + 4, hu => simp at hu
theorem ref_all {w : World} {b : Nat} {s : Scal} {e : TypeId} {r : Nat × Nat} (h : w.heap[b]? = some (.cells s.ref.toArray e r)) :
    w.cell? ⟨b, 0, none⟩ = some (.string s.rs) ∧ w.cell? ⟨b, 1, none⟩ = some (.string s.rt) ∧ w.cell? ⟨b, 2, none⟩ = some (.bool s.rf) ∧ w.cell? ⟨b, 3, none⟩ = some (.bool s.ra) ∧ w.cell? ⟨b, 4, none⟩ = some (.int .i64 s.a0) ∧ w.cell? ⟨b, 5, none⟩ = some (.int .i64 s.a1) ∧ w.cell? ⟨b, 6, none⟩ = some (.bool s.a2) ∧ w.cell? ⟨b, 7, none⟩ = some (.bool s.a3) ∧ w.cell? ⟨b, 8, none⟩ = some (.int .i64 s.b0) ∧ w.cell? ⟨b, 9, none⟩ = some (.int .i64 s.b1) ∧ w.cell? ⟨b, 10, none⟩ = some (.bool s.b2) ∧ w.cell? ⟨b, 11, none⟩ = some (.bool s.b3) := by
  simp only [World.cell?, h]
  exact ⟨rfl, rfl, rfl, rfl, rfl, rfl, rfl, rfl, rfl, rfl, rfl, rfl⟩
def zeroB (s : Scal) : Bool := decide (s.b0 = 0) && decide (s.b1 = 0) && !s.b2 && !s.b3
theorem corner_ne (s : Scal) (w : World) : (binOp .neq 24 (.agg #[.int .i64 s.b0, .int .i64 s.b1, .bool s.b2, .bool s.b3]) (.agg #[.int .i64 0, .int .i64 0, .bool false, .bool false])).run Tryz.prog w = .ok (.bool (!zeroB s)) w := by
  go_simp
  by_cases h0 : s.b0 = 0
  rotate_left
  · simp [zeroB, h0]
  by_cases h1 : s.b1 = 0
  rotate_left
  · simp [zeroB, h0, h1]
  by_cases h2 : s.b2 = true
  · simp [zeroB, h0, h1, h2]
  by_cases h3 : s.b3 = true
  · simp [zeroB, h0, h1, h2, h3]
  simp [zeroB, h0, h1, h2, h3]
def checkN (e1 q1 e2 q2 rf c1 ra c2 z : Bool) : Int :=
  if (!e1 && !q1) || (!e2 && !q2) || (e1 && (!e2 || rf)) then 111 else if !c1 || (ra && !c2) || (!ra && (!z || !e2)) then 110 else 0
theorem check_call {W : World} (hg : Ck.Consts W) (hT : Ck.Tabs W) (s : Scal) (hok : s.OK) : ∃ k : Int, ∀ w, Ck.Later W w → Calls Tryz.prog 130 #[.agg s.ref.toArray] w fun e w' => e = .returned (.int .i64 k) ∧ Below w.heap.size w w' := by
  obtain ⟨q1, cA⟩ := sheet_call hg hT s.rs hok.rs
  obtain ⟨q2, cB⟩ := sheet_call hg hT s.rt hok.rt
  refine ⟨checkN (decide (s.rs.size = 0)) q1 (decide (s.rt.size = 0)) q2 s.rf (cornerOk s.a0 s.a1) s.ra (cornerOk s.b0 s.b1) (zeroB s), fun w hw => ?_⟩
  have cC := fun w => corner_call s.a0 s.a1 s.a2 s.a3 w
  have cD := fun w => corner_call s.b0 s.b1 s.b2 s.b3 w
  have he1 := empty_iff s.rs
  have he2 := empty_iff s.rt
  have hne := fun w => corner_ne s w
  generalize decide (s.rs.size = 0) = e1 at he1 ⊢
  generalize decide (s.rt.size = 0) = e2 at he2 ⊢
  generalize cornerOk s.a0 s.a1 = c1 at cC ⊢
  generalize cornerOk s.b0 s.b1 = c2 at cD ⊢
  generalize zeroB s = z at hne ⊢
  obtain ⟨rf, hrf⟩ : ∃ r, s.rf = r := ⟨_, rfl⟩
  obtain ⟨ra, hra⟩ : ∃ r, s.ra = r := ⟨_, rfl⟩
  rw [hrf, hra]
  go_enter Tryz.func130, Tryz.ntmps130
  go_upto_region 1 with fail
  generalize hW1 : World.alloc w _ = W1
  have hbc : Below w.heap.size w W1 := by rw [← hW1]; exact (Below.refl _ _).alloc (Nat.le_refl _) _
  have hC : W1.heap[w.heap.size]? = some (.cells s.ref.toArray 26 (0, 0)) := by rw [← hW1]; exact heap_alloc_new _ _
  clear hW1
  have hlc := later_below hw hbc
  obtain ⟨x0, x1, x2, x3, x4, x5, x6, x7, x8, x9, x10, x11⟩ := ref_all hC
  clear hw hC hok hg hT
  rw [hrf] at x2
  rw [hra] at x3
  clear hrf hra
  cases e1
  · cases q1
    · go_wp2_with (first
        | (go_at_call 60; (first | with_reducible refine (cA _ hlc).mono ?_ | with_reducible refine (cB _ hlc).mono ?_); rintro e w5 ⟨rfl, hb5⟩; replace hbc := hbc.trans (hb5.mono hbc.size); replace hlc := later_below hlc hb5; have kk := keep12 hb5 x0 x1 x2 x3 x4 x5 x6 x7 x8 x9 x10 x11; clear x0 x1 x2 x3 x4 x5 x6 x7 x8 x9 x10 x11; obtain ⟨x0, x1, x2, x3, x4, x5, x6, x7, x8, x9, x10, x11⟩ := kk; clear hb5)
        | (go_at_call 169; (first | with_reducible refine (cC _).mono ?_ | with_reducible refine (cD _).mono ?_); rintro e w5 ⟨rfl, hb5⟩; replace hbc := hbc.trans (hb5.mono hbc.size); replace hlc := later_below hlc hb5; have kk := keep12 hb5 x0 x1 x2 x3 x4 x5 x6 x7 x8 x9 x10 x11; clear x0 x1 x2 x3 x4 x5 x6 x7 x8 x9 x10 x11; obtain ⟨x0, x1, x2, x3, x4, x5, x6, x7, x8, x9, x10, x11⟩ := kk; clear hb5))
      go_ret
      exact ⟨by simp [checkN], hbc⟩
    · cases e2
      · cases q2
        · go_wp2_with (first
            | (go_at_call 60; (first | with_reducible refine (cA _ hlc).mono ?_ | with_reducible refine (cB _ hlc).mono ?_); rintro e w5 ⟨rfl, hb5⟩; replace hbc := hbc.trans (hb5.mono hbc.size); replace hlc := later_below hlc hb5; have kk := keep12 hb5 x0 x1 x2 x3 x4 x5 x6 x7 x8 x9 x10 x11; clear x0 x1 x2 x3 x4 x5 x6 x7 x8 x9 x10 x11; obtain ⟨x0, x1, x2, x3, x4, x5, x6, x7, x8, x9, x10, x11⟩ := kk; clear hb5)
            | (go_at_call 169; (first | with_reducible refine (cC _).mono ?_ | with_reducible refine (cD _).mono ?_); rintro e w5 ⟨rfl, hb5⟩; replace hbc := hbc.trans (hb5.mono hbc.size); replace hlc := later_below hlc hb5; have kk := keep12 hb5 x0 x1 x2 x3 x4 x5 x6 x7 x8 x9 x10 x11; clear x0 x1 x2 x3 x4 x5 x6 x7 x8 x9 x10 x11; obtain ⟨x0, x1, x2, x3, x4, x5, x6, x7, x8, x9, x10, x11⟩ := kk; clear hb5))
          go_ret
          exact ⟨by simp [checkN], hbc⟩
        · cases c1
          · go_wp2_with (first
              | (go_at_call 60; (first | with_reducible refine (cA _ hlc).mono ?_ | with_reducible refine (cB _ hlc).mono ?_); rintro e w5 ⟨rfl, hb5⟩; replace hbc := hbc.trans (hb5.mono hbc.size); replace hlc := later_below hlc hb5; have kk := keep12 hb5 x0 x1 x2 x3 x4 x5 x6 x7 x8 x9 x10 x11; clear x0 x1 x2 x3 x4 x5 x6 x7 x8 x9 x10 x11; obtain ⟨x0, x1, x2, x3, x4, x5, x6, x7, x8, x9, x10, x11⟩ := kk; clear hb5)
              | (go_at_call 169; (first | with_reducible refine (cC _).mono ?_ | with_reducible refine (cD _).mono ?_); rintro e w5 ⟨rfl, hb5⟩; replace hbc := hbc.trans (hb5.mono hbc.size); replace hlc := later_below hlc hb5; have kk := keep12 hb5 x0 x1 x2 x3 x4 x5 x6 x7 x8 x9 x10 x11; clear x0 x1 x2 x3 x4 x5 x6 x7 x8 x9 x10 x11; obtain ⟨x0, x1, x2, x3, x4, x5, x6, x7, x8, x9, x10, x11⟩ := kk; clear hb5))
            go_ret
            exact ⟨by simp [checkN], hbc⟩
          · cases ra
            · cases z
              · go_wp2_with (first
                  | (go_at_call 60; (first | with_reducible refine (cA _ hlc).mono ?_ | with_reducible refine (cB _ hlc).mono ?_); rintro e w5 ⟨rfl, hb5⟩; replace hbc := hbc.trans (hb5.mono hbc.size); replace hlc := later_below hlc hb5; have kk := keep12 hb5 x0 x1 x2 x3 x4 x5 x6 x7 x8 x9 x10 x11; clear x0 x1 x2 x3 x4 x5 x6 x7 x8 x9 x10 x11; obtain ⟨x0, x1, x2, x3, x4, x5, x6, x7, x8, x9, x10, x11⟩ := kk; clear hb5)
                  | (go_at_call 169; (first | with_reducible refine (cC _).mono ?_ | with_reducible refine (cD _).mono ?_); rintro e w5 ⟨rfl, hb5⟩; replace hbc := hbc.trans (hb5.mono hbc.size); replace hlc := later_below hlc hb5; have kk := keep12 hb5 x0 x1 x2 x3 x4 x5 x6 x7 x8 x9 x10 x11; clear x0 x1 x2 x3 x4 x5 x6 x7 x8 x9 x10 x11; obtain ⟨x0, x1, x2, x3, x4, x5, x6, x7, x8, x9, x10, x11⟩ := kk; clear hb5))
                go_ret
                exact ⟨by simp [checkN], hbc⟩
              · go_wp2_with (first
                  | (go_at_call 60; (first | with_reducible refine (cA _ hlc).mono ?_ | with_reducible refine (cB _ hlc).mono ?_); rintro e w5 ⟨rfl, hb5⟩; replace hbc := hbc.trans (hb5.mono hbc.size); replace hlc := later_below hlc hb5; have kk := keep12 hb5 x0 x1 x2 x3 x4 x5 x6 x7 x8 x9 x10 x11; clear x0 x1 x2 x3 x4 x5 x6 x7 x8 x9 x10 x11; obtain ⟨x0, x1, x2, x3, x4, x5, x6, x7, x8, x9, x10, x11⟩ := kk; clear hb5)
                  | (go_at_call 169; (first | with_reducible refine (cC _).mono ?_ | with_reducible refine (cD _).mono ?_); rintro e w5 ⟨rfl, hb5⟩; replace hbc := hbc.trans (hb5.mono hbc.size); replace hlc := later_below hlc hb5; have kk := keep12 hb5 x0 x1 x2 x3 x4 x5 x6 x7 x8 x9 x10 x11; clear x0 x1 x2 x3 x4 x5 x6 x7 x8 x9 x10 x11; obtain ⟨x0, x1, x2, x3, x4, x5, x6, x7, x8, x9, x10, x11⟩ := kk; clear hb5))
                go_ret
                exact ⟨by simp [checkN], hbc⟩
            · cases c2
              · go_wp2_with (first
                  | (go_at_call 60; (first | with_reducible refine (cA _ hlc).mono ?_ | with_reducible refine (cB _ hlc).mono ?_); rintro e w5 ⟨rfl, hb5⟩; replace hbc := hbc.trans (hb5.mono hbc.size); replace hlc := later_below hlc hb5; have kk := keep12 hb5 x0 x1 x2 x3 x4 x5 x6 x7 x8 x9 x10 x11; clear x0 x1 x2 x3 x4 x5 x6 x7 x8 x9 x10 x11; obtain ⟨x0, x1, x2, x3, x4, x5, x6, x7, x8, x9, x10, x11⟩ := kk; clear hb5)
                  | (go_at_call 169; (first | with_reducible refine (cC _).mono ?_ | with_reducible refine (cD _).mono ?_); rintro e w5 ⟨rfl, hb5⟩; replace hbc := hbc.trans (hb5.mono hbc.size); replace hlc := later_below hlc hb5; have kk := keep12 hb5 x0 x1 x2 x3 x4 x5 x6 x7 x8 x9 x10 x11; clear x0 x1 x2 x3 x4 x5 x6 x7 x8 x9 x10 x11; obtain ⟨x0, x1, x2, x3, x4, x5, x6, x7, x8, x9, x10, x11⟩ := kk; clear hb5))
                go_ret
                exact ⟨by simp [checkN], hbc⟩
              · go_wp2_with (first
                  | (go_at_call 60; (first | with_reducible refine (cA _ hlc).mono ?_ | with_reducible refine (cB _ hlc).mono ?_); rintro e w5 ⟨rfl, hb5⟩; replace hbc := hbc.trans (hb5.mono hbc.size); replace hlc := later_below hlc hb5; have kk := keep12 hb5 x0 x1 x2 x3 x4 x5 x6 x7 x8 x9 x10 x11; clear x0 x1 x2 x3 x4 x5 x6 x7 x8 x9 x10 x11; obtain ⟨x0, x1, x2, x3, x4, x5, x6, x7, x8, x9, x10, x11⟩ := kk; clear hb5)
                  | (go_at_call 169; (first | with_reducible refine (cC _).mono ?_ | with_reducible refine (cD _).mono ?_); rintro e w5 ⟨rfl, hb5⟩; replace hbc := hbc.trans (hb5.mono hbc.size); replace hlc := later_below hlc hb5; have kk := keep12 hb5 x0 x1 x2 x3 x4 x5 x6 x7 x8 x9 x10 x11; clear x0 x1 x2 x3 x4 x5 x6 x7 x8 x9 x10 x11; obtain ⟨x0, x1, x2, x3, x4, x5, x6, x7, x8, x9, x10, x11⟩ := kk; clear hb5))
                go_ret
                exact ⟨by simp [checkN], hbc⟩
      · cases c1
        · go_wp2_with (first
            | (go_at_call 60; (first | with_reducible refine (cA _ hlc).mono ?_ | with_reducible refine (cB _ hlc).mono ?_); rintro e w5 ⟨rfl, hb5⟩; replace hbc := hbc.trans (hb5.mono hbc.size); replace hlc := later_below hlc hb5; have kk := keep12 hb5 x0 x1 x2 x3 x4 x5 x6 x7 x8 x9 x10 x11; clear x0 x1 x2 x3 x4 x5 x6 x7 x8 x9 x10 x11; obtain ⟨x0, x1, x2, x3, x4, x5, x6, x7, x8, x9, x10, x11⟩ := kk; clear hb5)
            | (go_at_call 169; (first | with_reducible refine (cC _).mono ?_ | with_reducible refine (cD _).mono ?_); rintro e w5 ⟨rfl, hb5⟩; replace hbc := hbc.trans (hb5.mono hbc.size); replace hlc := later_below hlc hb5; have kk := keep12 hb5 x0 x1 x2 x3 x4 x5 x6 x7 x8 x9 x10 x11; clear x0 x1 x2 x3 x4 x5 x6 x7 x8 x9 x10 x11; obtain ⟨x0, x1, x2, x3, x4, x5, x6, x7, x8, x9, x10, x11⟩ := kk; clear hb5))
          go_ret
          exact ⟨by simp [checkN], hbc⟩
        · cases ra
          · cases z
            · go_wp2_with (first
                | (go_at_call 60; (first | with_reducible refine (cA _ hlc).mono ?_ | with_reducible refine (cB _ hlc).mono ?_); rintro e w5 ⟨rfl, hb5⟩; replace hbc := hbc.trans (hb5.mono hbc.size); replace hlc := later_below hlc hb5; have kk := keep12 hb5 x0 x1 x2 x3 x4 x5 x6 x7 x8 x9 x10 x11; clear x0 x1 x2 x3 x4 x5 x6 x7 x8 x9 x10 x11; obtain ⟨x0, x1, x2, x3, x4, x5, x6, x7, x8, x9, x10, x11⟩ := kk; clear hb5)
                | (go_at_call 169; (first | with_reducible refine (cC _).mono ?_ | with_reducible refine (cD _).mono ?_); rintro e w5 ⟨rfl, hb5⟩; replace hbc := hbc.trans (hb5.mono hbc.size); replace hlc := later_below hlc hb5; have kk := keep12 hb5 x0 x1 x2 x3 x4 x5 x6 x7 x8 x9 x10 x11; clear x0 x1 x2 x3 x4 x5 x6 x7 x8 x9 x10 x11; obtain ⟨x0, x1, x2, x3, x4, x5, x6, x7, x8, x9, x10, x11⟩ := kk; clear hb5))
              go_ret
              exact ⟨by simp [checkN], hbc⟩
            · go_wp2_with (first
                | (go_at_call 60; (first | with_reducible refine (cA _ hlc).mono ?_ | with_reducible refine (cB _ hlc).mono ?_); rintro e w5 ⟨rfl, hb5⟩; replace hbc := hbc.trans (hb5.mono hbc.size); replace hlc := later_below hlc hb5; have kk := keep12 hb5 x0 x1 x2 x3 x4 x5 x6 x7 x8 x9 x10 x11; clear x0 x1 x2 x3 x4 x5 x6 x7 x8 x9 x10 x11; obtain ⟨x0, x1, x2, x3, x4, x5, x6, x7, x8, x9, x10, x11⟩ := kk; clear hb5)
                | (go_at_call 169; (first | with_reducible refine (cC _).mono ?_ | with_reducible refine (cD _).mono ?_); rintro e w5 ⟨rfl, hb5⟩; replace hbc := hbc.trans (hb5.mono hbc.size); replace hlc := later_below hlc hb5; have kk := keep12 hb5 x0 x1 x2 x3 x4 x5 x6 x7 x8 x9 x10 x11; clear x0 x1 x2 x3 x4 x5 x6 x7 x8 x9 x10 x11; obtain ⟨x0, x1, x2, x3, x4, x5, x6, x7, x8, x9, x10, x11⟩ := kk; clear hb5))
              go_ret
              exact ⟨by simp [checkN], hbc⟩
          · cases c2
            · go_wp2_with (first
                | (go_at_call 60; (first | with_reducible refine (cA _ hlc).mono ?_ | with_reducible refine (cB _ hlc).mono ?_); rintro e w5 ⟨rfl, hb5⟩; replace hbc := hbc.trans (hb5.mono hbc.size); replace hlc := later_below hlc hb5; have kk := keep12 hb5 x0 x1 x2 x3 x4 x5 x6 x7 x8 x9 x10 x11; clear x0 x1 x2 x3 x4 x5 x6 x7 x8 x9 x10 x11; obtain ⟨x0, x1, x2, x3, x4, x5, x6, x7, x8, x9, x10, x11⟩ := kk; clear hb5)
                | (go_at_call 169; (first | with_reducible refine (cC _).mono ?_ | with_reducible refine (cD _).mono ?_); rintro e w5 ⟨rfl, hb5⟩; replace hbc := hbc.trans (hb5.mono hbc.size); replace hlc := later_below hlc hb5; have kk := keep12 hb5 x0 x1 x2 x3 x4 x5 x6 x7 x8 x9 x10 x11; clear x0 x1 x2 x3 x4 x5 x6 x7 x8 x9 x10 x11; obtain ⟨x0, x1, x2, x3, x4, x5, x6, x7, x8, x9, x10, x11⟩ := kk; clear hb5))
              go_ret
              exact ⟨by simp [checkN], hbc⟩
            · go_wp2_with (first
                | (go_at_call 60; (first | with_reducible refine (cA _ hlc).mono ?_ | with_reducible refine (cB _ hlc).mono ?_); rintro e w5 ⟨rfl, hb5⟩; replace hbc := hbc.trans (hb5.mono hbc.size); replace hlc := later_below hlc hb5; have kk := keep12 hb5 x0 x1 x2 x3 x4 x5 x6 x7 x8 x9 x10 x11; clear x0 x1 x2 x3 x4 x5 x6 x7 x8 x9 x10 x11; obtain ⟨x0, x1, x2, x3, x4, x5, x6, x7, x8, x9, x10, x11⟩ := kk; clear hb5)
                | (go_at_call 169; (first | with_reducible refine (cC _).mono ?_ | with_reducible refine (cD _).mono ?_); rintro e w5 ⟨rfl, hb5⟩; replace hbc := hbc.trans (hb5.mono hbc.size); replace hlc := later_below hlc hb5; have kk := keep12 hb5 x0 x1 x2 x3 x4 x5 x6 x7 x8 x9 x10 x11; clear x0 x1 x2 x3 x4 x5 x6 x7 x8 x9 x10 x11; obtain ⟨x0, x1, x2, x3, x4, x5, x6, x7, x8, x9, x10, x11⟩ := kk; clear hb5))
              go_ret
              exact ⟨by simp [checkN], hbc⟩
  · cases e2
    · cases q2
      · go_wp2_with (first
          | (go_at_call 60; (first | with_reducible refine (cA _ hlc).mono ?_ | with_reducible refine (cB _ hlc).mono ?_); rintro e w5 ⟨rfl, hb5⟩; replace hbc := hbc.trans (hb5.mono hbc.size); replace hlc := later_below hlc hb5; have kk := keep12 hb5 x0 x1 x2 x3 x4 x5 x6 x7 x8 x9 x10 x11; clear x0 x1 x2 x3 x4 x5 x6 x7 x8 x9 x10 x11; obtain ⟨x0, x1, x2, x3, x4, x5, x6, x7, x8, x9, x10, x11⟩ := kk; clear hb5)
          | (go_at_call 169; (first | with_reducible refine (cC _).mono ?_ | with_reducible refine (cD _).mono ?_); rintro e w5 ⟨rfl, hb5⟩; replace hbc := hbc.trans (hb5.mono hbc.size); replace hlc := later_below hlc hb5; have kk := keep12 hb5 x0 x1 x2 x3 x4 x5 x6 x7 x8 x9 x10 x11; clear x0 x1 x2 x3 x4 x5 x6 x7 x8 x9 x10 x11; obtain ⟨x0, x1, x2, x3, x4, x5, x6, x7, x8, x9, x10, x11⟩ := kk; clear hb5))
        go_ret
        exact ⟨by simp [checkN], hbc⟩
      · go_wp2_with (first
          | (go_at_call 60; (first | with_reducible refine (cA _ hlc).mono ?_ | with_reducible refine (cB _ hlc).mono ?_); rintro e w5 ⟨rfl, hb5⟩; replace hbc := hbc.trans (hb5.mono hbc.size); replace hlc := later_below hlc hb5; have kk := keep12 hb5 x0 x1 x2 x3 x4 x5 x6 x7 x8 x9 x10 x11; clear x0 x1 x2 x3 x4 x5 x6 x7 x8 x9 x10 x11; obtain ⟨x0, x1, x2, x3, x4, x5, x6, x7, x8, x9, x10, x11⟩ := kk; clear hb5)
          | (go_at_call 169; (first | with_reducible refine (cC _).mono ?_ | with_reducible refine (cD _).mono ?_); rintro e w5 ⟨rfl, hb5⟩; replace hbc := hbc.trans (hb5.mono hbc.size); replace hlc := later_below hlc hb5; have kk := keep12 hb5 x0 x1 x2 x3 x4 x5 x6 x7 x8 x9 x10 x11; clear x0 x1 x2 x3 x4 x5 x6 x7 x8 x9 x10 x11; obtain ⟨x0, x1, x2, x3, x4, x5, x6, x7, x8, x9, x10, x11⟩ := kk; clear hb5))
        go_ret
        exact ⟨by simp [checkN], hbc⟩
    · cases rf
      · cases c1
        · go_wp2_with (first
            | (go_at_call 60; (first | with_reducible refine (cA _ hlc).mono ?_ | with_reducible refine (cB _ hlc).mono ?_); rintro e w5 ⟨rfl, hb5⟩; replace hbc := hbc.trans (hb5.mono hbc.size); replace hlc := later_below hlc hb5; have kk := keep12 hb5 x0 x1 x2 x3 x4 x5 x6 x7 x8 x9 x10 x11; clear x0 x1 x2 x3 x4 x5 x6 x7 x8 x9 x10 x11; obtain ⟨x0, x1, x2, x3, x4, x5, x6, x7, x8, x9, x10, x11⟩ := kk; clear hb5)
            | (go_at_call 169; (first | with_reducible refine (cC _).mono ?_ | with_reducible refine (cD _).mono ?_); rintro e w5 ⟨rfl, hb5⟩; replace hbc := hbc.trans (hb5.mono hbc.size); replace hlc := later_below hlc hb5; have kk := keep12 hb5 x0 x1 x2 x3 x4 x5 x6 x7 x8 x9 x10 x11; clear x0 x1 x2 x3 x4 x5 x6 x7 x8 x9 x10 x11; obtain ⟨x0, x1, x2, x3, x4, x5, x6, x7, x8, x9, x10, x11⟩ := kk; clear hb5))
          go_ret
          exact ⟨by simp [checkN], hbc⟩
        · cases ra
          · cases z
            · go_wp2_with (first
                | (go_at_call 60; (first | with_reducible refine (cA _ hlc).mono ?_ | with_reducible refine (cB _ hlc).mono ?_); rintro e w5 ⟨rfl, hb5⟩; replace hbc := hbc.trans (hb5.mono hbc.size); replace hlc := later_below hlc hb5; have kk := keep12 hb5 x0 x1 x2 x3 x4 x5 x6 x7 x8 x9 x10 x11; clear x0 x1 x2 x3 x4 x5 x6 x7 x8 x9 x10 x11; obtain ⟨x0, x1, x2, x3, x4, x5, x6, x7, x8, x9, x10, x11⟩ := kk; clear hb5)
                | (go_at_call 169; (first | with_reducible refine (cC _).mono ?_ | with_reducible refine (cD _).mono ?_); rintro e w5 ⟨rfl, hb5⟩; replace hbc := hbc.trans (hb5.mono hbc.size); replace hlc := later_below hlc hb5; have kk := keep12 hb5 x0 x1 x2 x3 x4 x5 x6 x7 x8 x9 x10 x11; clear x0 x1 x2 x3 x4 x5 x6 x7 x8 x9 x10 x11; obtain ⟨x0, x1, x2, x3, x4, x5, x6, x7, x8, x9, x10, x11⟩ := kk; clear hb5))
              go_ret
              exact ⟨by simp [checkN], hbc⟩
            · go_wp2_with (first
                | (go_at_call 60; (first | with_reducible refine (cA _ hlc).mono ?_ | with_reducible refine (cB _ hlc).mono ?_); rintro e w5 ⟨rfl, hb5⟩; replace hbc := hbc.trans (hb5.mono hbc.size); replace hlc := later_below hlc hb5; have kk := keep12 hb5 x0 x1 x2 x3 x4 x5 x6 x7 x8 x9 x10 x11; clear x0 x1 x2 x3 x4 x5 x6 x7 x8 x9 x10 x11; obtain ⟨x0, x1, x2, x3, x4, x5, x6, x7, x8, x9, x10, x11⟩ := kk; clear hb5)
                | (go_at_call 169; (first | with_reducible refine (cC _).mono ?_ | with_reducible refine (cD _).mono ?_); rintro e w5 ⟨rfl, hb5⟩; replace hbc := hbc.trans (hb5.mono hbc.size); replace hlc := later_below hlc hb5; have kk := keep12 hb5 x0 x1 x2 x3 x4 x5 x6 x7 x8 x9 x10 x11; clear x0 x1 x2 x3 x4 x5 x6 x7 x8 x9 x10 x11; obtain ⟨x0, x1, x2, x3, x4, x5, x6, x7, x8, x9, x10, x11⟩ := kk; clear hb5))
              go_ret
              exact ⟨by simp [checkN], hbc⟩
          · cases c2
            · go_wp2_with (first
                | (go_at_call 60; (first | with_reducible refine (cA _ hlc).mono ?_ | with_reducible refine (cB _ hlc).mono ?_); rintro e w5 ⟨rfl, hb5⟩; replace hbc := hbc.trans (hb5.mono hbc.size); replace hlc := later_below hlc hb5; have kk := keep12 hb5 x0 x1 x2 x3 x4 x5 x6 x7 x8 x9 x10 x11; clear x0 x1 x2 x3 x4 x5 x6 x7 x8 x9 x10 x11; obtain ⟨x0, x1, x2, x3, x4, x5, x6, x7, x8, x9, x10, x11⟩ := kk; clear hb5)
                | (go_at_call 169; (first | with_reducible refine (cC _).mono ?_ | with_reducible refine (cD _).mono ?_); rintro e w5 ⟨rfl, hb5⟩; replace hbc := hbc.trans (hb5.mono hbc.size); replace hlc := later_below hlc hb5; have kk := keep12 hb5 x0 x1 x2 x3 x4 x5 x6 x7 x8 x9 x10 x11; clear x0 x1 x2 x3 x4 x5 x6 x7 x8 x9 x10 x11; obtain ⟨x0, x1, x2, x3, x4, x5, x6, x7, x8, x9, x10, x11⟩ := kk; clear hb5))
              go_ret
              exact ⟨by simp [checkN], hbc⟩
            · go_wp2_with (first
                | (go_at_call 60; (first | with_reducible refine (cA _ hlc).mono ?_ | with_reducible refine (cB _ hlc).mono ?_); rintro e w5 ⟨rfl, hb5⟩; replace hbc := hbc.trans (hb5.mono hbc.size); replace hlc := later_below hlc hb5; have kk := keep12 hb5 x0 x1 x2 x3 x4 x5 x6 x7 x8 x9 x10 x11; clear x0 x1 x2 x3 x4 x5 x6 x7 x8 x9 x10 x11; obtain ⟨x0, x1, x2, x3, x4, x5, x6, x7, x8, x9, x10, x11⟩ := kk; clear hb5)
                | (go_at_call 169; (first | with_reducible refine (cC _).mono ?_ | with_reducible refine (cD _).mono ?_); rintro e w5 ⟨rfl, hb5⟩; replace hbc := hbc.trans (hb5.mono hbc.size); replace hlc := later_below hlc hb5; have kk := keep12 hb5 x0 x1 x2 x3 x4 x5 x6 x7 x8 x9 x10 x11; clear x0 x1 x2 x3 x4 x5 x6 x7 x8 x9 x10 x11; obtain ⟨x0, x1, x2, x3, x4, x5, x6, x7, x8, x9, x10, x11⟩ := kk; clear hb5))
              go_ret
              exact ⟨by simp [checkN], hbc⟩
      · go_wp2_with (first
          | (go_at_call 60; (first | with_reducible refine (cA _ hlc).mono ?_ | with_reducible refine (cB _ hlc).mono ?_); rintro e w5 ⟨rfl, hb5⟩; replace hbc := hbc.trans (hb5.mono hbc.size); replace hlc := later_below hlc hb5; have kk := keep12 hb5 x0 x1 x2 x3 x4 x5 x6 x7 x8 x9 x10 x11; clear x0 x1 x2 x3 x4 x5 x6 x7 x8 x9 x10 x11; obtain ⟨x0, x1, x2, x3, x4, x5, x6, x7, x8, x9, x10, x11⟩ := kk; clear hb5)
          | (go_at_call 169; (first | with_reducible refine (cC _).mono ?_ | with_reducible refine (cD _).mono ?_); rintro e w5 ⟨rfl, hb5⟩; replace hbc := hbc.trans (hb5.mono hbc.size); replace hlc := later_below hlc hb5; have kk := keep12 hb5 x0 x1 x2 x3 x4 x5 x6 x7 x8 x9 x10 x11; clear x0 x1 x2 x3 x4 x5 x6 x7 x8 x9 x10 x11; obtain ⟨x0, x1, x2, x3, x4, x5, x6, x7, x8, x9, x10, x11⟩ := kk; clear hb5))
        go_ret
        exact ⟨by simp [checkN], hbc⟩
theorem there_of {w : World} {b o n : Nat} {cs : Array Value} {t : TypeId} (h : w.heap[b]? = some (.cells cs t (0, 0))) (hn : o + n ≤ cs.size) : w.there b o n := fun j hj => by
  constructor
  · simp only [World.cell?, h]
    have : o + j < cs.size := by omega
    simp [this]
  · simp [World.frozen?, h]
theorem cells_other : ∀ (w : World) {b c : Nat} (o : Nat) (vs : List Value), c ≠ b → (w.setCells b o vs).heap[c]? = w.heap[c]?
  | w, b, c, o, [], _ => rfl
  | w, b, c, o, v :: r, h => (cells_other (w.setCell ⟨b, o, none⟩ v) (o + 1) r h).trans (set_other w ⟨b, o, none⟩ v h)
theorem cells_below : ∀ {B : Nat} {w0 w : World} {b : Nat}, Below B w0 w → B ≤ b → ∀ (o : Nat) (vs : List Value), Below B w0 (w.setCells b o vs)
  | _, _, _, _, h, _, _, [] => h
  | _, _, _, _, h, hB, o, v :: r => cells_below (set_below h hB v) hB (o + 1) r
theorem ref_range {w w' : World} {b : Nat} {s : Scal} {v : Value} {e : TypeId} {r : Nat × Nat} (h : w.heap[b]? = some (.cells (s.row v).toArray e r)) (hb : Below w.heap.size w w') : w'.rangeAt b 5 s.ref := by
  intro j u hu
  have hc := cells_block h
  have hj : (s.row v)[5 + j]? = some u := by
    have e : s.ref = ((s.row v).drop 5).take 12 := rfl
    rw [e, List.getElem?_take] at hu
    split at hu
    · rw [List.getElem?_drop] at hu
      exact hu
    · cases hu
  have := hc (5 + j) u hj
  rw [Nat.zero_add] at this
  exact cell_keep hb this
def setL : Array Value → Nat → List Value → Array Value
  | a, _, [] => a
  | a, o, v :: r => setL (a.setIfInBounds o v) (o + 1) r
theorem cells_blk : ∀ {w : World} {b : Nat} {cs : Array Value} {t : TypeId} {fr : Nat × Nat}, w.heap[b]? = some (.cells cs t fr) → ∀ (o : Nat) (vs : List Value), (w.setCells b o vs).heap[b]? = some (.cells (setL cs o vs) t fr)
  | _, _, _, _, _, h, _, [] => h
  | _, _, _, _, _, h, o, v :: r => cells_blk (set_block (i := o) h v) (o + 1) r
theorem ref_struck (s : Scal) (u v : Value) : setL ((s.row v).toArray.setIfInBounds 18 u) 5 Sz.ref0V = (({ s with rs := ⟨#[]⟩, rt := ⟨#[]⟩, rf := false, ra := false, a0 := 0, a1 := 0, a2 := false, a3 := false, b0 := 0, b1 := 0, b2 := false, b3 := false } : Scal).row u).toArray := by kernel_rfl
attribute [local go_sem] run_store_flt3
theorem leaf_4 {W : World} (hg : Ck.Consts W) (hT : Ck.Tabs W) (s : Scal) (hok : s.OK) (hop : s.op = 4) (n : Nat) (arr : Bool) : ∃ b : Bool, (b = true → True) ∧ LeafAns W s n arr b := by
  obtain ⟨kk, c2⟩ := check_call hg hT s hok
  have hq2 : ∀ q : Bool, q = true → True := fun _ _ => trivial
  obtain ⟨q2, hqq⟩ : ∃ q2 : Bool, (kk == (0 : Int)) = q2 := ⟨_, rfl⟩
  have hq2 := hq2 q2
  have cS := fun w hw => Sz.same123 hg { s with rs := ⟨#[]⟩, rt := ⟨#[]⟩, rf := false, ra := false, a0 := 0, a1 := 0, a2 := false, a3 := false, b0 := 0, b1 := 0, b2 := false, b3 := false } none 0 0 4 ⟨#[]⟩ w hw
  generalize Sz.sameB _ _ _ _ = q1 at cS
  refine ⟨decide (n = 0) && q1 && q2, fun h => hq2 (by simp only [Bool.and_eq_true] at h; exact h.2), fun p m w hw => ?_⟩
  generalize hb : (decide (n = 0) && q1 && q2) = b
  have Hq := Lib.hid hb
  have HcS := Lib.hid cS
  have Hw := Lib.hid hw
  clear cS hb hw hok hq2
  have hA1 := Scal.arr_size s (.slice p n m)
  go_enter Tryz.func126, Tryz.ntmps126
  go_upto_region 2 with (first
    | (refine wpList_load_row rfl 29 _ rfl w.heap.size rfl 29 (s.arr (.slice p n m)) (0, 0) _ (heap_alloc_new _ _) Tryz.underlying29 rfl size29 ?_)
    | (refine wpList_store_row rfl 29 _ _ rfl (w.heap.size + 1) (s.arr (.slice p n m)) rfl rfl 29 zeroTerm (heap_alloc2_new _ _ _) size29 rfl (Scal.arr_one _ _ _ _) ?_))
  generalize hW : World.setRow _ _ _ = W2
  have hB1 : W2.heap[w.heap.size]? = some (.cells (s.row (.slice p n m)).toArray 29 (0, 0)) := by
    rw [← hW, setRow_far _ _ (by omega), heap_alloc_old _ _ (by simp)]
    exact heap_alloc_new _ _
  have hB2 : W2.heap[w.heap.size + 1]? = some (.cells (s.row (.slice p n m)).toArray 29 (0, 0)) := by
    rw [← hW]
    exact setRow_heap _ _ _ _ _ _ (heap_alloc2_new _ _ _)
  have hbw : Below w.heap.size w W2 := by
    rw [← hW]
    exact below_setRow (((Below.refl _ _).alloc (Nat.le_refl _) _).alloc (by simp) _) (Nat.le_succ _) _
  clear hW
  obtain ⟨x0, x1, x2, x3, x4, x5, x6, x7, x8, x9, x10, x11, x12, x13, x14, x15, x16, x17, x18⟩ := block_all hB1
  obtain ⟨y0, y1, y2, y3, y4, y5, y6, y7, y8, y9, y10, y11, y12, y13, y14, y15, y16, y17, y18⟩ := block_all hB2
  have zf : W2.frozen? ⟨w.heap.size + 1, 5, none⟩ = false := by simp [World.frozen?, hB2]
  have z18 : W2.frozen? ⟨w.heap.size + 1, 18, none⟩ = false := by simp [World.frozen?, hB2]
  rw [hop] at x0
  have Hop := Lib.hid hop
  clear hop
  have Hb1 := Lib.hid hB1
  have Hb2 := Lib.hid hB2
  have Hbw := Lib.hid hbw
  clear hB1 hB2 hbw
  have hth : World.there (W2.setCell ⟨w.heap.size + 1, 18, none⟩ (.slice none 0 0)) (w.heap.size + 1) 5 12 := there_of (set_block Hb2.out _) (by rw [Array.size_setIfInBounds, Scal.arr_size]; decide)
  have hst : Sem.run Tryz.prog (storeCells ⟨w.heap.size + 1, 5, none⟩ Sz.ref0V) (W2.setCell ⟨w.heap.size + 1, 18, none⟩ (.slice none 0 0)) = .ok () ((W2.setCell ⟨w.heap.size + 1, 18, none⟩ (.slice none 0 0)).setCells (w.heap.size + 1) 5 Sz.ref0V) := by
    have := run_storeCells_cells (P := Tryz.prog) (w.heap.size + 1) 5 Sz.ref0V 0 (W2.setCell ⟨w.heap.size + 1, 18, none⟩ (.slice none 0 0)) (fun j hj => by rw [Nat.add_zero]; exact (hth j hj).1) (fun j hj => by rw [Nat.add_zero]; exact (hth j hj).2) (by decide)
    rw [Nat.add_zero] at this
    exact this
  clear hth
  go_upto_region 15 with (first
    | (refine wpList_build' (by rfl) 26 _ rfl Sz.ref0V.toArray (by kernel_rfl) ?_))
  generalize hW3 : World.setCells (World.setCell W2 _ _) _ _ _ = W3
  have hC1 : W3.heap[w.heap.size]? = some (.cells (s.row (.slice p n m)).toArray 29 (0, 0)) := by
    rw [← hW3, cells_other _ _ _ (show w.heap.size ≠ w.heap.size + 1 by omega), set_other W2 ⟨w.heap.size + 1, 18, none⟩ (.slice none 0 0) (show w.heap.size ≠ w.heap.size + 1 by omega)]
    exact Hb1.out
  have hC2 : W3.heap[w.heap.size + 1]? = some (.cells (({ s with rs := ⟨#[]⟩, rt := ⟨#[]⟩, rf := false, ra := false, a0 := 0, a1 := 0, a2 := false, a3 := false, b0 := 0, b1 := 0, b2 := false, b3 := false } : Scal).row (.slice none 0 0)).toArray 29 (0, 0)) := by
    rw [← hW3]
    exact (cells_blk (set_block (i := 18) Hb2.out (.slice none 0 0)) 5 Sz.ref0V).trans (congrArg (fun c => some (Obj.cells c 29 (0, 0))) (ref_struck s _ _))
  have hbw3 : Below w.heap.size w W3 := by
    rw [← hW3]
    exact cells_below (set_below Hbw.out (Nat.le_succ _) _) (Nat.le_succ _) _ _
  clear hW3 x1 x2 x3 x4 x5 x6 x7 x8 x9 x10 x11 x12 x13 x14 x15 x16 x17 x18 y0 y1 y2 y3 y4 y5 y6 y7 y8 y9 y10 y11 y12 y13 y14 y15 y16 y17 y18 zf z18 x0
  obtain ⟨x0, x1, x2, x3, x4, x5, x6, x7, x8, x9, x10, x11, x12, x13, x14, x15, x16, x17, x18⟩ := block_all hC1
  rw [Hop.out] at x0
  have Hc1 := Lib.hid hC1
  have Hc2 := Lib.hid hC2
  have Hbw3 := Lib.hid hbw3
  have hl3 : Hid (Ck.Later W W3) := Lib.hid (show Later W W3 from (show Later W w from Hw.out).below hbw3)
  clear hC1 hC2 hbw3
  clear x1 x2 x3 x4 x6 x7 x8 x9 x10 x11 x12 x13 x14 x15 x16 x17
  by_cases hn : n = 0
  · subst hn
    cases q1
    · go_wp2_with (first
      | (go_at_call 123; refine (HcS.out _ hl3.out).mono ?_; rintro e w4 ⟨rfl, hb4⟩; have hR := Lib.hid (ref_range (Hc1.out) hb4); clear x0 x5 x18)
      | (go_at_call 130; refine (c2 _ (later_below hl3.out hb4)).mono ?_; rintro e w5 ⟨rfl, hb5⟩)
      | (refine wpList_load_row' (by rfl) 29 _ rfl (w.heap.size + 1) rfl 29 _ (0, 0) _ Hc2.out Tryz.underlying29 rfl size29 ?_)
      | (refine wpList_build' (by rfl) 29 _ rfl (bareA 4 ⟨#[]⟩) (by kernel_rfl) ?_)
      | (refine wpList_load_mid' (by rfl) 26 _ rfl w.heap.size 5 rfl s.ref _ hR.out Tryz.underlying26 rfl size26 ?_))
      go_ret
      exact ⟨by rw [← Hq.out]; rfl, Hbw3.out.trans (hb4.mono Hbw3.out.size)⟩
    · cases q2
      all_goals (
        go_wp2_with (first
        | (go_at_call 123; refine (HcS.out _ hl3.out).mono ?_; rintro e w4 ⟨rfl, hb4⟩; have hR := Lib.hid (ref_range (Hc1.out) hb4); clear x0 x5 x18)
        | (go_at_call 130; refine (c2 _ (later_below hl3.out hb4)).mono ?_; rintro e w5 ⟨rfl, hb5⟩)
        | (refine wpList_load_row' (by rfl) 29 _ rfl (w.heap.size + 1) rfl 29 _ (0, 0) _ Hc2.out Tryz.underlying29 rfl size29 ?_)
        | (refine wpList_build' (by rfl) 29 _ rfl (bareA 4 ⟨#[]⟩) (by kernel_rfl) ?_)
        | (refine wpList_load_mid' (by rfl) 26 _ rfl w.heap.size 5 rfl s.ref _ hR.out Tryz.underlying26 rfl size26 ?_))
        go_ret
        exact ⟨by rw [← Hq.out]; rfl, Hbw3.out.trans ((hb4.trans (hb5.mono hb4.size)).mono Hbw3.out.size)⟩)
  · have hnz : ¬ ((n : Int) = 0) := by omega
    go_wp2_with fail
    go_ret
    exact ⟨by rw [← Hq.out]; simp [hn], Hbw3.out⟩
theorem leaf_call {W : World} (hg : Ck.Consts W) (hT : Ck.Tabs W) (s : Scal) (hok : s.OK) (n : Nat) (arr : Bool) :
    ∃ b : Bool, (b = true → (s.op = 1 ∧ absB s.num < 9218868437227405312) ∨ s.op = 2 ∨ s.op = 3 ∨ s.op = 4 ∨ s.op = 5 ∨ s.op = 8) ∧ LeafAns W s n arr b := by
  by_cases h1 : s.op = 1
  · obtain ⟨b, h, c⟩ := leaf_1 hg s hok h1 n arr
    exact ⟨b, fun hb => .inl ⟨h1, h hb⟩, c⟩
  by_cases h2 : s.op = 2
  · obtain ⟨b, h, c⟩ := leaf_2 hg hT s hok h2 n arr
    exact ⟨b, fun _ => .inr (.inl h2), c⟩
  by_cases h3 : s.op = 3
  · obtain ⟨b, h, c⟩ := leaf_3 hg s hok h3 n arr
    exact ⟨b, fun _ => .inr (.inr (.inl h3)), c⟩
  by_cases h4 : s.op = 4
  · obtain ⟨b, h, c⟩ := leaf_4 hg hT s hok h4 n arr
    exact ⟨b, fun _ => .inr (.inr (.inr (.inl h4))), c⟩
  by_cases h5 : s.op = 5
  · obtain ⟨b, h, c⟩ := leaf_5 hg s hok h5 n arr
    exact ⟨b, fun _ => .inr (.inr (.inr (.inr (.inl h5)))), c⟩
  by_cases h8 : s.op = 8
  · obtain ⟨b, h, c⟩ := leaf_8 hg s hok h8 n arr
    exact ⟨b, fun _ => .inr (.inr (.inr (.inr (.inr h8)))), c⟩
  exact ⟨false, fun h => Bool.noConfusion h, leaf_other s (by omega) n arr⟩
end Go.Proofs.YtkeibmkcgnppeaaGreatDoor

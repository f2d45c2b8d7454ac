/- The two tests of a format answer the same, whatever is refused at once. -/
import Derived.Test.YtiamenedboifeabGreatDoorSegCall
namespace Go.Proofs.YtiamenedboifeabGreatDoor
open Go Go.Proofs.YtiamenedboifeabGreatDoor.Rx
set_option maxRecDepth 100000

/-- Both tests answer so. -/
def AnsBoth (W : World) (arg : Value) (c : Int) : Prop :=
  ∀ w0, Later W w0 → Calls Tryz.prog 14 #[arg, .int .i64 256] w0 (fun e w => e = .returned (.int .i64 c) ∧ RowKit.Below w0.heap.size w0 w) ∧
    Calls Tryz.prog 6 #[arg, .int .i64 256] w0 (fun e w => e = .returned (.int .i64 c) ∧ RowKit.Below w0.heap.size w0 w)

theorem early {W : World} {D : FD} {c : Int} (cs : Consts W) (sp : SlOK D.p D.n) (sq : SlOK D.q D.m) {facts : List (Exp × Bool)} (hf : ∀ B, ∀ f ∈ facts, f.1.ev (symTab B (D.s1 0 0).vals) = some (.bool f.2))
    (h14 : ∀ sy old, rets c (runL (senv none none false false .off sy old facts) 117 pre14 st0) = true) (h6 : ∀ sy old, rets c (runL (senv none none false false .off sy old facts) 122 pre6 st0) = true) : AnsBoth W D.arg c := by
  intro w0 hW
  have OK : (senv none none false false .off (symTab w0.heap.size (D.s1 0 0).vals) (oldOf W) facts).OK :=
    senv_ok (fun _ h => by cases h) (fun _ h => by cases h) sp sq (fun h => by cases h) (fun h => by cases h) trivial (hf _)
  refine ⟨calls_of_wp_marks Tryz.func14 body14_eq (wp_secs _ ?_), calls_of_wp_marks Tryz.func6 body6_eq (wp_secs _ ?_)⟩
  · show wpL Tryz.prog secs14 _ _ _
    rw [secs14_eq, nt14]
    exact wpL_app (ret_core OK (h14 _ _) (start_sr cs sp sq hW 117 rfl) (RowKit.Below.refl _ _) fun a w h1 h2 h3 => leave res14 h1 h2 ⟨rfl, h3⟩)
  · show wpL Tryz.prog secs6 _ _ _
    rw [secs6_eq, nt6]
    exact wpL_app (ret_core OK (h6 _ _) (start_sr cs sp sq hW 122 rfl) (RowKit.Below.refl _ _) fun a w h1 h2 h3 => leave res6 h1 h2 ⟨rfl, h3⟩)

/-- THE TWO TESTS ANSWER THE SAME: 0, 3 or 100. -/
theorem both {W : World} {D : FD} (cs : Consts W) (sp : SlOK D.p D.n) (sq : SlOK D.q D.m) (hD : D.n ≤ 64 → D.m ≤ 8 → 0 ≤ D.k → D.k ≤ 7 → D.OK W) : AnsBoth W D.arg 0 ∨ AnsBoth W D.arg 3 ∨ AnsBoth W D.arg 100 := by
  have num : ∀ (B : Nat) (k : Nat) (n : Int) (o : BinOp) (c : Int) (t : Bool), (D.s1 0 0).vals[k]? = some (.int .i64 n) → cmpInt o n c = some t → (cmpL o k c).ev (symTab B (D.s1 0 0).vals) = some (.bool t) := fun B k n o c t h h' => cmp_ev h h'
  by_cases hn : 64 < D.n
  · exact .inr (.inl (early cs sp sq (fun B => one_fact (num B 4 D.n _ _ _ rfl (by simp only [cmpInt, Option.some.injEq, decide_eq_true_eq]; omega))) pre14_a pre6_a))
  have fn : ∀ B, nBig.ev (symTab B (D.s1 0 0).vals) = some (.bool false) := fun B => num B 4 D.n _ _ _ rfl (by simp only [cmpInt, Option.some.injEq, decide_eq_false_iff_not]; omega)
  by_cases hm : 8 < D.m
  · exact .inr (.inl (early cs sp sq (fun B => two_facts (fn B) (num B 7 D.m _ _ _ rfl (by simp only [cmpInt, Option.some.injEq, decide_eq_true_eq]; omega))) pre14_b pre6_b))
  have fm : ∀ B, mBig.ev (symTab B (D.s1 0 0).vals) = some (.bool false) := fun B => num B 7 D.m _ _ _ rfl (by simp only [cmpInt, Option.some.injEq, decide_eq_false_iff_not]; omega)
  by_cases h0 : D.k < 0
  · exact .inr (.inr (early cs sp sq (fun B => cons_fact (fn B) (two_facts (fm B) (num B 0 D.k _ _ _ rfl (by simp only [cmpInt, Option.some.injEq, decide_eq_true_eq]; omega)))) pre14_c pre6_c))
  have f0 : ∀ B, kNeg.ev (symTab B (D.s1 0 0).vals) = some (.bool false) := fun B => num B 0 D.k _ _ _ rfl (by simp only [cmpInt, Option.some.injEq, decide_eq_false_iff_not]; omega)
  by_cases h7 : 7 < D.k
  · exact .inr (.inr (early cs sp sq (fun B => cons_fact (fn B) (cons_fact (fm B) (two_facts (f0 B) (num B 0 D.k _ _ _ rfl (by simp only [cmpInt, Option.some.injEq, decide_eq_true_eq]; omega))))) pre14_d pre6_d))
  by_cases hw : D.wh = true ∧ D.k ≠ 5
  · refine .inr (.inr (early cs sp sq (fun B => cons_fact ?_ (cons_fact (num B 0 D.k _ _ _ rfl (by simp only [cmpInt, Option.some.injEq, decide_eq_false_iff_not]; exact hw.2)) (D.s1_facts (by omega) (by omega) (by omega) (by omega)))) pre14_e pre6_e))
    show some (Value.bool D.wh) = _
    rw [hw.1]
  have OK := hD (by omega) (by omega) (by omega) (by omega)
  have hwh : D.wh = true → D.k = 5 := fun h => by
    by_cases h5 : D.k = 5
    · exact h5
    · exact absurd ⟨h, h5⟩ hw
  have fin : AnsBoth W D.arg D.ans := fun w0 hW => ⟨call14 OK hW hwh, call6 OK hW hwh⟩
  by_cases hb : D.bad
  · rw [ans_bad hb] at fin; exact .inr (.inr fin)
  · rw [ans_good hb] at fin; exact .inl fin
end Go.Proofs.YtiamenedboifeabGreatDoor

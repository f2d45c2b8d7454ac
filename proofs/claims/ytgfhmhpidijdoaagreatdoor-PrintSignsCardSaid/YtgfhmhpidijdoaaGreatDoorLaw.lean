/- THE WALK of the law 'PrintSigns', its callees by what the evaluator finds. -/
import Derived.Test.YtgfhmhpidijdoaaGreatDoorBegun
import Derived.Test.YtgfhmhpidijdoaaGreatDoorSigns
import Derived.WalkKit
import Derived.Deep.QuietTactic
import Derived.BigQuiet
namespace Go.Proofs.YtgfhmhpidijdoaaGreatDoor
open Go Go.Proofs.YtgfhmhpidijdoaaGreatDoor.Rx Go.RowKit
set_option linter.unusedVariables false
set_option maxRecDepth 100000

def Cells (w : World) : Prop := ∀ g off v, env.gcell g off = some v → g < w.heap.size ∧ w.cell? ⟨g, off, none⟩ = some v

theorem Cells.below {w w' : World} (h : Cells w) (b : Below w.heap.size w w') : Cells w' := fun g off v hv => by
  obtain ⟨h1, h2⟩ := h g off v hv
  exact ⟨Nat.lt_of_lt_of_le h1 b.size, by rw [b.cell (p := ⟨g, off, none⟩) h1]; exact h2⟩

theorem lit1 {f : FuncId} {k : Nat} {x : Int} {v : Value} (h : ans (eval env k (.call f [.lit (.int .i64 x)] ⟨0, .leaf⟩)) = some v) (w : World) (hg : Cells w) :
    Calls Tryz.prog f #[.int .i64 x] w fun e w' => e = .returned v ∧ Below w.heap.size w w' := lit_call env_ok (args := [.int .i64 x]) h w hg

theorem begun_ok (w : World) (hg : Cells w) : Calls Tryz.prog 6 #[] w fun e w' => e = .returned (.bool true) ∧ Below w.heap.size w w' := closed_call env_ok begun_true w hg

theorem law_ok (x : Int) (w : World) (hg : Cells w) : Calls Tryz.prog 3 #[.int .i64 x] w fun e w' => e = .returned (.bool true) ∧ Below w.heap.size w w' := by
  obtain ⟨s, s1, s2⟩ := sign_alike x
  obtain ⟨l, l1, l2⟩ := level_alike x
  go_enter Tryz.func3, Tryz.ntmps3
  go_wp2_with fail
  refine (begun_ok w hg).mono fun e w1 ⟨he, b1⟩ => ?_
  subst he
  have hg1 := hg.below b1
  go_wp2_with fail
  refine (lit1 s1 w1 hg1).mono fun e w2 ⟨he, b2⟩ => ?_
  subst he
  have hg2 := hg1.below b2
  go_wp2_with fail
  refine (lit1 s2 w2 hg2).mono fun e w3 ⟨he, b3⟩ => ?_
  subst he
  have hg3 := hg2.below b3
  go_wp2_with fail
  refine (lit1 l1 w3 hg3).mono fun e w4 ⟨he, b4⟩ => ?_
  subst he
  have hg4 := hg3.below b4
  go_wp2_with fail
  refine (lit1 l2 w4 hg4).mono fun e w5 ⟨he, b5⟩ => ?_
  subst he
  have hB : Below w.heap.size w w5 := (((b1.trans (b2.mono b1.size)).trans (b3.mono (Nat.le_trans b1.size b2.size))).trans (b4.mono (Nat.le_trans b1.size (Nat.le_trans b2.size b3.size)))).trans (b5.mono (Nat.le_trans b1.size (Nat.le_trans b2.size (Nat.le_trans b3.size b4.size))))
  clear b1 b2 b3 b4 b5 hg1 hg2 hg3 hg4 hg s1 s2 l1 l2
  go_wp2
  go_ret
  exact ⟨rfl, hB⟩
end Go.Proofs.YtgfhmhpidijdoaaGreatDoor

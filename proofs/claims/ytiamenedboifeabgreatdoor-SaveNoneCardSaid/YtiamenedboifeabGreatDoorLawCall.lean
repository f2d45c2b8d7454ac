/- The law SaveNone answers true, if the two tests of a format answer the same. -/
import Derived.Test.YtiamenedboifeabGreatDoorBegun
import Derived.Test.YtiamenedboifeabGreatDoorSegBoth
namespace Go.Proofs.YtiamenedboifeabGreatDoor
open Go Go.Proofs.YtiamenedboifeabGreatDoor.Rx
set_option maxRecDepth 100000

theorem later_of {W w : World} {base : Nat} {con : FuncId → List AV → Option AV} {opc opn : Op → (Operand → AV) → Option AV} {sy : Rx.Place} {tys : T Ty} {facts : List (Exp × Bool)} (hb : base ≤ w.heap.size)
    (hst : (env.plus con opc opn sy (oldOf W) tys facts).Still base w) : Later W w := by
  refine ⟨?_, still_later hst⟩
  rcases Nat.eq_zero_or_pos W.heap.size with h0 | h0
  · omega
  · have hk : Nat.blt (W.heap.size - 1) W.heap.size = true := by simpa [Nat.blt_eq] using (by omega : W.heap.size - 1 < W.heap.size)
    have := (hst.2 (W.heap.size - 1) W.heap[W.heap.size - 1]? (by show oldOf W _ = _; simp [oldOf, hk])).1
    omega

theorem law_call {W : World} {D : FD} {c : Int} (cs : Consts W) (sp : SlOK D.p D.n) (sq : SlOK D.q D.m) (hA : AnsBoth W D.arg c)
    (hlaw : ∀ sy old, isTrue (ans (eval (lenv c sy old) 3000 (.call (.fn 3) [.agg lBox] ⟨4, .leaf⟩))) = true) :
    Calls Tryz.prog 3 #[D.arg] W fun e w => e = .returned (.bool true) ∧ RowKit.Below W.heap.size W w := by
  have one : ∀ {v : Value} {n : Int}, SlOK v n → v.oneCell' = true := by
    rintro v n ⟨a, len, cap, rfl, _⟩
    rfl
  have hrow : ∀ {ρ : Rx.Place}, (symTab W.heap.size [.int .i64 D.k, D.p, D.q, .bool D.wh]).le ρ → VR ρ (.agg lBox) D.arg := by
    intro ρ hle
    simp only [lBox, FD.arg, VR]
    refine ⟨_, rfl, ?_⟩
    simp only [VRs]
    exact ⟨_, _, rfl, ex_VR hle (k := 0) rfl rfl, _, _, rfl, ex_VR hle (k := 1) rfl (one sp), _, _, rfl, ex_VR hle (k := 2) rfl (one sq), _, _, rfl, ex_VR hle (k := 3) rfl rfl, rfl⟩
  have OK : (lenv c (symTab W.heap.size [.int .i64 D.k, D.p, D.q, .bool D.wh]) (oldOf W)).OK := by
    refine env_ok.plus ?_ (fun _ _ _ h => by cases h) (fun _ _ _ h => by cases h) (fun _ _ h => by simp at h) (fun _ h => by cases h)
    intro f args v hv base ρ w vals hst hle hb ha
    have hL : Later W w := later_of hb hst
    unfold lcon at hv
    split at hv
    · rename_i hff
      split at hv
      · rename_i l u
        split at hv
        · rename_i hsa
          have hl := sameAll_ok hsa
          subst hl
          split at hv
          · rename_i hu
            have hu := litSame_ok hu
            subst hu
            simp only [Option.some.injEq] at hv
            subst hv
            simp only [VRs] at ha
            obtain ⟨x, _, rfl, hx, y, _, rfl, hy, rfl⟩ := ha
            simp only [VR] at hx hy
            obtain ⟨cells, rfl, hx⟩ := hx
            subst hy
            have hx2 := VRs_det (k0 := 0) hle 4 (fun i hi => by
              match i, hi with
              | 0, _ | 1, _ | 2, _ | 3, _ => exact ⟨_, rfl⟩) (show VRs ρ ((List.range' 0 4).map fun k => .ex (.sym k)) cells.toList from hx)
            have hcs : cells = #[.int .i64 D.k, D.p, D.q, .bool D.wh] := Array.ext' (by rw [hx2]; rfl)
            subst hcs
            have hB := hA w hL
            simp only [Bool.or_eq_true] at hff
            rcases hff with hff | hff
            · have := Nat.eq_of_beq_eq_true hff; subst this
              refine Calls.mono hB.1 fun e w' he => ?_
              obtain ⟨rfl, hbel⟩ := he
              exact ⟨_, rfl, by simp only [VR], hbel⟩
            · have := Nat.eq_of_beq_eq_true hff; subst this
              refine Calls.mono hB.2 fun e w' he => ?_
              obtain ⟨rfl, hbel⟩ := he
              exact ⟨_, rfl, by simp only [VR], hbel⟩
          · cases hv
        · cases hv
      · cases hv
    · cases hv
  have hL : Later W W := ⟨Nat.le_refl _, fun _ _ => rfl⟩
  exact sym_call OK (isTrue_ans (hlaw _ _)) W rfl (Nat.le_refl _) (Nat.le_refl 4) (hL.still cs) (vals := [D.arg]) (by simp only [VRs]; exact ⟨_, _, rfl, hrow (.refl _), rfl⟩)

/-- THE LAW: true, whatever the format is. -/
theorem law_true {W : World} {D : FD} (cs : Consts W) (sp : SlOK D.p D.n) (sq : SlOK D.q D.m) (hD : D.n ≤ 64 → D.m ≤ 8 → 0 ≤ D.k → D.k ≤ 7 → D.OK W) :
    Calls Tryz.prog 3 #[D.arg] W fun e w => e = .returned (.bool true) ∧ RowKit.Below W.heap.size W w := by
  rcases both cs sp sq hD with h | h | h
  · exact law_call cs sp sq h law0
  · exact law_call cs sp sq h law3
  · exact law_call cs sp sq h law100
end Go.Proofs.YtiamenedboifeabGreatDoor

/- No function of a program starts a goroutine: then no call does, by whatever names it goes. -/
import GoSem.ClaimGoes
import Derived.KernelRfl
namespace Go.Proofs.YtiamenedboifeabGreatDoor.Rx

theorem goes_none {P : Program} (h : ∀ (g : Nat) (fn : Func), P.funcs[g]? = some fn → fn.goes = false) (f : FuncId) : P.goes f = false := by
  unfold Program.goes
  have h1 : ∀ g : Nat, ((P.funcs[g]?).any Func.goes) = false := by
    intro g
    cases hq : P.funcs[g]? with
    | none => rfl
    | some fn => simpa using h g fn hq
  have h2 : P.funcs.any Func.goes = false := by
    rw [Bool.eq_false_iff]
    intro hany
    rw [Array.any_eq_true] at hany
    obtain ⟨i, hi, hg⟩ := hany
    have := h i P.funcs[i] (Array.getElem?_eq_getElem hi)
    rw [this] at hg
    cases hg
  rw [h2, Bool.and_false, Bool.or_false]
  simp [h1]

/-- Looked at from one number on, so many. -/
def goesNot (P : Program) : Nat → Nat → Bool
  | _, 0 => true
  | i, n + 1 => match P.funcs[i]? with
    | some fn => match fn.goes with
      | true => false
      | false => goesNot P (i + 1) n
    | none => goesNot P (i + 1) n

theorem goesNot_ok {P : Program} : ∀ (n i : Nat), goesNot P i n = true → ∀ (g : Nat) (fn : Func), i ≤ g → g < i + n → P.funcs[g]? = some fn → fn.goes = false
  | 0, i, _, g, fn, h1, h2, _ => by omega
  | n + 1, i, h, g, fn, h1, h2, hg => by
    unfold goesNot at h
    by_cases e : g = i
    · subst e
      rw [hg] at h
      simp only [] at h
      split at h
      · cases h
      · assumption
    · have h' : goesNot P (i + 1) n = true := by
        split at h
        · split at h
          · cases h
          · exact h
        · exact h
      exact goesNot_ok n (i + 1) h' g fn (by omega) (by omega) hg

theorem goesAt_none {P : Program} (h : ∀ (g : Nat) (fn : Func), P.funcs[g]? = some fn → fn.goes = false) (func : String) : P.goesAt .entering func = false := by
  unfold Program.goesAt Program.goesFrom
  cases P.funcNamed func with
  | none => rfl
  | some f => simp [goes_none h]

end Go.Proofs.YtiamenedboifeabGreatDoor.Rx

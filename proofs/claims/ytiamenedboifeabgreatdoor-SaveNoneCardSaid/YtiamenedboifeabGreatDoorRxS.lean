/- A reflective evaluator of the model's code, part S: a call of literals that answers a literal. -/
import Derived.Test.YtiamenedboifeabGreatDoorRxR
namespace Go.Proofs.YtiamenedboifeabGreatDoor.Rx

/-- The literal that a call answers. -/
def ans : Option Out → Option Value
  | some (.call (.ret (.lit v)) _) => some v
  | _ => none

theorem lits_VRs {ρ : Place} : ∀ (l : List Value), VRs ρ (l.map AV.lit) l
  | [] => by simp [VRs]
  | v :: l => by
    simp only [List.map_cons, VRs]
    exact ⟨v, l, rfl, by simp [VR], lits_VRs l⟩

/-- A CALL OF LITERALS: what the evaluator finds holds in every world that has the constant variables. -/
theorem lit_call {E : Env} (OK : E.OK) {k : Nat} {f : FuncId} {args : List Value} {v : Value} (h : ans (eval E k (.call (.fn f) (args.map AV.lit) ⟨0, .leaf⟩)) = some v) (w : World)
    (hg : ∀ g off v, E.gcell g off = some v → g < w.heap.size ∧ w.cell? ⟨g, off, none⟩ = some v) (hsy : E.sy = fun _ => none := by rfl) (hold : E.old = fun _ => none := by rfl) :
    Calls E.P f args.toArray w fun e w' => e = .returned v ∧ RowKit.Below w.heap.size w w' := by
  unfold ans at h
  split at h
  · rename_i x M hM
    simp only [Option.some.injEq] at h
    subst h
    have hcall : callOf (eval E k) (.fn f) (args.map AV.lit) ⟨0, .leaf⟩ = some (.ret (.lit x), M) := by
      unfold callOf
      rw [hM]
    have hc : Cons E w.heap.size (fun _ => none) ⟨0, .leaf⟩ w := ⟨(fun b x hx => by simp at hx), (fun b b' x x' l l' hx => by simp at hx), (fun b l hl => by cases hl), (fun b l hl => by cases hl), ⟨hg, fun k o ho => by rw [hold] at ho; cases ho⟩, fun b l hl => by rw [hsy] at hl; cases hl⟩
    have := (eval_ok OK w.heap.size k).2.1 (.fn f) _ ⟨0, .leaf⟩ _ M hcall (fun _ => none) w args hc (Nat.le_refl _) (lits_VRs args)
    refine Calls.mono this fun e w' he => ?_
    obtain ⟨ρ', k1, k2⟩ := he
    refine ⟨?_, k1.below hc (Nat.le_refl _)⟩
    cases e with
    | returned v => simp only [EndR, VR] at k2; rw [k2]
    | _ => exact k2.elim
  · cases h

def isStr : Option Value → Bool
  | some (.string _) => true
  | _ => false
def isI64 : Option Value → Bool
  | some (.int .i64 _) => true
  | _ => false
def isTrue : Option Value → Bool
  | some (.bool true) => true
  | _ => false

/-- Two calls that answer alike. -/
theorem alikeS {a b : Option Out} (h : isStr (ans a) = true) (e : ans a = ans b) : ∃ s, ans a = some (.string s) ∧ ans b = some (.string s) := by
  rw [← e]
  unfold isStr at h
  split at h
  · rename_i s hs; exact ⟨s, hs, hs⟩
  · cases h

theorem alikeI {a b : Option Out} (h : isI64 (ans a) = true) (e : ans a = ans b) : ∃ n, ans a = some (.int .i64 n) ∧ ans b = some (.int .i64 n) := by
  rw [← e]
  unfold isI64 at h
  split at h
  · rename_i s hs; exact ⟨s, hs, hs⟩
  · cases h

theorem isTrue_ans {a : Option Out} (h : isTrue (ans a) = true) : ans a = some (.bool true) := by
  unfold isTrue at h
  split at h
  · assumption
  · cases h

/-- The integers, split. -/
theorem int_cases (p : Int → Prop) (N : Nat) (h1 : ∀ m, p (.negSucc m)) (h2 : ∀ m, p (.ofNat (m + N))) (h3 : ∀ m, m < N → p (.ofNat m)) (x : Int) : p x := by
  cases x with
  | negSucc m => exact h1 m
  | ofNat m =>
    rcases Nat.lt_or_ge m N with l | l
    · exact h3 m l
    · have := h2 (m - N)
      rwa [Nat.sub_add_cancel l] at this

end Go.Proofs.YtiamenedboifeabGreatDoor.Rx

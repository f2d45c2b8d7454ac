/- The law SaveNone, gone through whole by the evaluator in the kernel, whatever the two tests of the format answer alike. -/
import Derived.Test.YtiamenedboifeabGreatDoorEnv
namespace Go.Proofs.YtiamenedboifeabGreatDoor
open Go Go.Proofs.YtiamenedboifeabGreatDoor.Rx
set_option maxRecDepth 1000000
def lBox : List AV := [.ex (.sym 0), .ex (.sym 1), .ex (.sym 2), .ex (.sym 3)]
def lcon (c : Int) (f : FuncId) (args : List AV) : Option AV :=
  match Nat.beq f 14 || Nat.beq f 6 with
  | true => match args with
    | [.agg l, .lit v] => match sameAll l lBox with
      | true => match litSame v (.int .i64 256) with
        | true => some (.lit (.int .i64 c))
        | false => none
      | false => none
    | _ => none
  | false => none
noncomputable def lenv (c : Int) (sy : Rx.Place) (old : Nat → Option (Option Obj)) : Env := env.plus (lcon c) (fun _ _ => none) (fun _ _ => none) sy old .leaf []
section
variable (sy : Rx.Place) (old : Nat → Option (Option Obj))
theorem law0 : isTrue (ans (eval (lenv 0 sy old) 3000 (.call (.fn 3) [.agg lBox] ⟨4, .leaf⟩))) = true := by as_aux_lemma => kernel_rfl
theorem law3 : isTrue (ans (eval (lenv 3 sy old) 3000 (.call (.fn 3) [.agg lBox] ⟨4, .leaf⟩))) = true := by as_aux_lemma => kernel_rfl
theorem law100 : isTrue (ans (eval (lenv 100 sy old) 3000 (.call (.fn 3) [.agg lBox] ⟨4, .leaf⟩))) = true := by as_aux_lemma => kernel_rfl
end
end Go.Proofs.YtiamenedboifeabGreatDoor

/- The pieces of the two tests of a format, gone through by the evaluator: what each comes to under what is known. -/
import Derived.Test.YtiamenedboifeabGreatDoorEnv
import Derived.Test.YtiamenedboifeabGreatDoorRxZ
namespace Go.Proofs.YtiamenedboifeabGreatDoor
open Go Go.Proofs.YtiamenedboifeabGreatDoor.Rx
set_option maxRecDepth 100000

/-! Names: 0 the kind, 1 the pieces, 2 the maps, 3 whole, 4 how many pieces, 5 the index, 6 how many numbers, 7 how many maps, 8 a piece's place, 9 .. 15 a piece, 16 a map's place, 17 .. 19 a map. -/

def stys : T Ty := ((((((((((((((((T.leaf.set 0 (.int .i64)).set 3 .bool).set 4 (.int .i64)).set 5 (.int .i64)).set 6 (.int .i64)).set 7 (.int .i64)).set 9 (.int .i64)).set 10 .str).set 11 (.int .i64)).set 12 (.int .i64)).set 13 (.int .i64)).set 14 .bool).set 15 .bool).set 17 (.int .i64)).set 18 (.flt .f64)).set 19 (.int .i64))

/-- What kind of number a map compares with. -/
inductive Cl where
  | off
  | nan
  | fin
  | lit (bits : Nat)

def Cl.cell : Cl → AV
  | .lit b => .lit (.float .f64 b)
  | _ => .ex (.sym 18)

def sPiece : List AV := [.ex (.sym 9), .ex (.sym 10), .ex (.sym 11), .ex (.sym 12), .ex (.sym 13), .ex (.sym 14), .ex (.sym 15)]
def sMap (cl : Cl) : List AV := [.ex (.sym 17), cl.cell, .ex (.sym 19)]
def isZero : AV → Bool
  | .lit (.float .f64 b) => Nat.beq b 0
  | _ => false

def scon (g r : Option Bool) (cl : Cl) (f : FuncId) (args : List AV) : Option AV :=
  match args with
  | [.ex (.sym 0), .ex (.sym 9)] => match Nat.beq f 37 || Nat.beq f 21 with
    | true => match g with
      | some b => some (.lit (.bool b))
      | none => none
    | false => none
  | [.agg l] => match Nat.beq f 38 || Nat.beq f 22 with
    | true => match sameAll l sPiece with
      | true => match r with
        | some b => some (.lit (.bool b))
        | none => none
      | false => none
    | false => none
  | [.ex (.sym 18)] => match Nat.beq f 39 with
    | true => match cl with
      | .nan => some (.lit (.bool true))
      | .fin => some (.lit (.bool false))
      | _ => none
    | false => none
  | [.ex (.sym 18), .lit (.int .i64 z)] => match Nat.beq f 40 with
    | true => match decide (z = 0) with
      | true => match cl with
        | .fin => some (.lit (.bool false))
        | _ => none
      | false => none
    | false => none
  | _ => none

def sopc (in1 in2 : Bool) (cl : Cl) (op : Op) (g : Operand → AV) : Option AV :=
  match op with
  | .call c => match c.callee with
    | .builtin .len => match c.argTypes.toList with
      | [t] => match c.args.toList with
        | [x] => match g x with
          | .ex (.sym 1) => match Nat.beq t 22 with
            | true => some (.ex (.sym 4))
            | false => none
          | .ex (.sym 2) => match Nat.beq t 23 with
            | true => some (.ex (.sym 7))
            | false => none
          | _ => none
        | _ => none
      | _ => none
    | _ => none
  | .indexAddr t x i => match g x with
    | .ex (.sym 1) => match g i with
      | .ex (.sym 5) => match Nat.beq t 22 && in1 with
        | true => some (.ex (.sym 8))
        | false => none
      | _ => none
    | .ex (.sym 2) => match g i with
      | .ex (.sym 5) => match Nat.beq t 23 && in2 with
        | true => some (.ex (.sym 16))
        | false => none
      | _ => none
    | _ => none
  | .load t p => match g p with
    | .ex (.sym 8) => match Nat.beq t 80 && in1 with
      | true => some (.agg sPiece)
      | false => none
    | .ex (.sym 16) => match Nat.beq t 84 && in2 with
      | true => some (.agg (sMap cl))
      | false => none
    | _ => none
  | .binOp o _ x y _ => match g x with
    | .ex (.sym 18) => match o with
      | .sub => match g y with
        | .ex (.sym 18) => match cl with
          | .fin => some (.lit (.float .f64 0))
          | _ => none
        | _ => none
      | _ => none
    | .nan => match o with
      | .neq => match isZero (g y) with
        | true => some (.lit (.bool true))
        | false => none
      | _ => none
    | _ => none
  | _ => none

def isInf (b : Nat) : Bool := Nat.beq b 9218868437227405312 || Nat.beq b 18442240474082181120

def sopn (cl : Cl) (op : Op) (g : Operand → AV) : Option AV :=
  match op with
  | .binOp o _ x y _ => match o with
    | .sub => match g x with
      | .ex (.sym 18) => match g y with
        | .ex (.sym 18) => match cl with
          | .nan => some .nan
          | _ => none
        | _ => none
      | .lit (.float .f64 b) => match g y with
        | .lit (.float .f64 b') => match Nat.beq b b' with
          | true => match isInf b with
            | true => some .nan
            | false => none
          | false => none
        | _ => none
      | _ => none
    | _ => none
  | _ => none

noncomputable def senv (g r : Option Bool) (in1 in2 : Bool) (cl : Cl) (sy : Rx.Place) (old : Nat → Option (Option Obj)) (facts : List (Exp × Bool)) : Env :=
  env.plus (scon g r cl) (sopc in1 in2 cl) (sopn cl) sy old stys facts

/-! The pieces of the code. -/

def loopOf : Code → Code
  | .block _ (.loop b) => b
  | _ => .skip
noncomputable def secs14 : List Code := secs (Tryz.f14.body.getD .skip)
noncomputable def secs6 : List Code := secs (Tryz.f6.body.getD .skip)
noncomputable def pre14 : List Code := secs14.take 7
noncomputable def pre6 : List Code := secs6.take 7
noncomputable def la14 : Code := loopOf (secs14[7]?.getD .skip)
noncomputable def la6 : Code := loopOf (secs6[7]?.getD .skip)
noncomputable def mid14 : List Code := (secs14.drop 8).take 3
noncomputable def mid6 : List Code := (secs6.drop 8).take 1
noncomputable def lb14 : Code := loopOf (secs14[11]?.getD .skip)
noncomputable def lb6 : Code := loopOf (secs6[9]?.getD .skip)
noncomputable def post14 : List Code := secs14.drop 12
noncomputable def post6 : List Code := secs6.drop 10
theorem secs14_eq : secs14 = pre14 ++ .block 0 (.loop la14) :: (mid14 ++ .block 2 (.loop lb14) :: post14) := by kernel_rfl
theorem secs6_eq : secs6 = pre6 ++ .block 0 (.loop la6) :: (mid6 ++ .block 2 (.loop lb6) :: post6) := by kernel_rfl
end Go.Proofs.YtiamenedboifeabGreatDoor

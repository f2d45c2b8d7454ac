/- Sign and Level, the program's and the reference's, for every operation. -/
import Derived.Test.YtgfhmhpidijdoaaGreatDoorEnv
namespace Go.Proofs.YtgfhmhpidijdoaaGreatDoor
open Go Go.Proofs.YtgfhmhpidijdoaaGreatDoor.Rx
set_option maxRecDepth 1000000
theorem sign_neg (m : Nat) : isStr (ans (eval env 400 (.call 7 [.lit (.int .i64 (.negSucc m))] ⟨0, .leaf⟩))) = true := by kernel_rfl
theorem sign_neg' (m : Nat) : ans (eval env 400 (.call 7 [.lit (.int .i64 (.negSucc m))] ⟨0, .leaf⟩)) = ans (eval env 400 (.call 8 [.lit (.int .i64 (.negSucc m))] ⟨0, .leaf⟩)) := by kernel_rfl
theorem sign_big (m : Nat) : isStr (ans (eval env 400 (.call 7 [.lit (.int .i64 (.ofNat (m + 26)))] ⟨0, .leaf⟩))) = true := by kernel_rfl
theorem sign_big' (m : Nat) : ans (eval env 400 (.call 7 [.lit (.int .i64 (.ofNat (m + 26)))] ⟨0, .leaf⟩)) = ans (eval env 400 (.call 8 [.lit (.int .i64 (.ofNat (m + 26)))] ⟨0, .leaf⟩)) := by kernel_rfl
theorem level_neg (m : Nat) : isI64 (ans (eval env 400 (.call 9 [.lit (.int .i64 (.negSucc m))] ⟨0, .leaf⟩))) = true := by kernel_rfl
theorem level_neg' (m : Nat) : ans (eval env 400 (.call 9 [.lit (.int .i64 (.negSucc m))] ⟨0, .leaf⟩)) = ans (eval env 400 (.call 10 [.lit (.int .i64 (.negSucc m))] ⟨0, .leaf⟩)) := by kernel_rfl
theorem level_big (m : Nat) : isI64 (ans (eval env 400 (.call 9 [.lit (.int .i64 (.ofNat (m + 26)))] ⟨0, .leaf⟩))) = true := by kernel_rfl
theorem level_big' (m : Nat) : ans (eval env 400 (.call 9 [.lit (.int .i64 (.ofNat (m + 26)))] ⟨0, .leaf⟩)) = ans (eval env 400 (.call 10 [.lit (.int .i64 (.ofNat (m + 26)))] ⟨0, .leaf⟩)) := by kernel_rfl
theorem sign_0 : isStr (ans (eval env 400 (.call 7 [.lit (.int .i64 (.ofNat 0))] ⟨0, .leaf⟩))) = true := by kernel_rfl
theorem sign_0' : ans (eval env 400 (.call 7 [.lit (.int .i64 (.ofNat 0))] ⟨0, .leaf⟩)) = ans (eval env 400 (.call 8 [.lit (.int .i64 (.ofNat 0))] ⟨0, .leaf⟩)) := by kernel_rfl
theorem level_0 : isI64 (ans (eval env 400 (.call 9 [.lit (.int .i64 (.ofNat 0))] ⟨0, .leaf⟩))) = true := by kernel_rfl
theorem level_0' : ans (eval env 400 (.call 9 [.lit (.int .i64 (.ofNat 0))] ⟨0, .leaf⟩)) = ans (eval env 400 (.call 10 [.lit (.int .i64 (.ofNat 0))] ⟨0, .leaf⟩)) := by kernel_rfl
theorem sign_1 : isStr (ans (eval env 400 (.call 7 [.lit (.int .i64 (.ofNat 1))] ⟨0, .leaf⟩))) = true := by kernel_rfl
theorem sign_1' : ans (eval env 400 (.call 7 [.lit (.int .i64 (.ofNat 1))] ⟨0, .leaf⟩)) = ans (eval env 400 (.call 8 [.lit (.int .i64 (.ofNat 1))] ⟨0, .leaf⟩)) := by kernel_rfl
theorem level_1 : isI64 (ans (eval env 400 (.call 9 [.lit (.int .i64 (.ofNat 1))] ⟨0, .leaf⟩))) = true := by kernel_rfl
theorem level_1' : ans (eval env 400 (.call 9 [.lit (.int .i64 (.ofNat 1))] ⟨0, .leaf⟩)) = ans (eval env 400 (.call 10 [.lit (.int .i64 (.ofNat 1))] ⟨0, .leaf⟩)) := by kernel_rfl
theorem sign_2 : isStr (ans (eval env 400 (.call 7 [.lit (.int .i64 (.ofNat 2))] ⟨0, .leaf⟩))) = true := by kernel_rfl
theorem sign_2' : ans (eval env 400 (.call 7 [.lit (.int .i64 (.ofNat 2))] ⟨0, .leaf⟩)) = ans (eval env 400 (.call 8 [.lit (.int .i64 (.ofNat 2))] ⟨0, .leaf⟩)) := by kernel_rfl
theorem level_2 : isI64 (ans (eval env 400 (.call 9 [.lit (.int .i64 (.ofNat 2))] ⟨0, .leaf⟩))) = true := by kernel_rfl
theorem level_2' : ans (eval env 400 (.call 9 [.lit (.int .i64 (.ofNat 2))] ⟨0, .leaf⟩)) = ans (eval env 400 (.call 10 [.lit (.int .i64 (.ofNat 2))] ⟨0, .leaf⟩)) := by kernel_rfl
theorem sign_3 : isStr (ans (eval env 400 (.call 7 [.lit (.int .i64 (.ofNat 3))] ⟨0, .leaf⟩))) = true := by kernel_rfl
theorem sign_3' : ans (eval env 400 (.call 7 [.lit (.int .i64 (.ofNat 3))] ⟨0, .leaf⟩)) = ans (eval env 400 (.call 8 [.lit (.int .i64 (.ofNat 3))] ⟨0, .leaf⟩)) := by kernel_rfl
theorem level_3 : isI64 (ans (eval env 400 (.call 9 [.lit (.int .i64 (.ofNat 3))] ⟨0, .leaf⟩))) = true := by kernel_rfl
theorem level_3' : ans (eval env 400 (.call 9 [.lit (.int .i64 (.ofNat 3))] ⟨0, .leaf⟩)) = ans (eval env 400 (.call 10 [.lit (.int .i64 (.ofNat 3))] ⟨0, .leaf⟩)) := by kernel_rfl
theorem sign_4 : isStr (ans (eval env 400 (.call 7 [.lit (.int .i64 (.ofNat 4))] ⟨0, .leaf⟩))) = true := by kernel_rfl
theorem sign_4' : ans (eval env 400 (.call 7 [.lit (.int .i64 (.ofNat 4))] ⟨0, .leaf⟩)) = ans (eval env 400 (.call 8 [.lit (.int .i64 (.ofNat 4))] ⟨0, .leaf⟩)) := by kernel_rfl
theorem level_4 : isI64 (ans (eval env 400 (.call 9 [.lit (.int .i64 (.ofNat 4))] ⟨0, .leaf⟩))) = true := by kernel_rfl
theorem level_4' : ans (eval env 400 (.call 9 [.lit (.int .i64 (.ofNat 4))] ⟨0, .leaf⟩)) = ans (eval env 400 (.call 10 [.lit (.int .i64 (.ofNat 4))] ⟨0, .leaf⟩)) := by kernel_rfl
theorem sign_5 : isStr (ans (eval env 400 (.call 7 [.lit (.int .i64 (.ofNat 5))] ⟨0, .leaf⟩))) = true := by kernel_rfl
theorem sign_5' : ans (eval env 400 (.call 7 [.lit (.int .i64 (.ofNat 5))] ⟨0, .leaf⟩)) = ans (eval env 400 (.call 8 [.lit (.int .i64 (.ofNat 5))] ⟨0, .leaf⟩)) := by kernel_rfl
theorem level_5 : isI64 (ans (eval env 400 (.call 9 [.lit (.int .i64 (.ofNat 5))] ⟨0, .leaf⟩))) = true := by kernel_rfl
theorem level_5' : ans (eval env 400 (.call 9 [.lit (.int .i64 (.ofNat 5))] ⟨0, .leaf⟩)) = ans (eval env 400 (.call 10 [.lit (.int .i64 (.ofNat 5))] ⟨0, .leaf⟩)) := by kernel_rfl
theorem sign_6 : isStr (ans (eval env 400 (.call 7 [.lit (.int .i64 (.ofNat 6))] ⟨0, .leaf⟩))) = true := by kernel_rfl
theorem sign_6' : ans (eval env 400 (.call 7 [.lit (.int .i64 (.ofNat 6))] ⟨0, .leaf⟩)) = ans (eval env 400 (.call 8 [.lit (.int .i64 (.ofNat 6))] ⟨0, .leaf⟩)) := by kernel_rfl
theorem level_6 : isI64 (ans (eval env 400 (.call 9 [.lit (.int .i64 (.ofNat 6))] ⟨0, .leaf⟩))) = true := by kernel_rfl
theorem level_6' : ans (eval env 400 (.call 9 [.lit (.int .i64 (.ofNat 6))] ⟨0, .leaf⟩)) = ans (eval env 400 (.call 10 [.lit (.int .i64 (.ofNat 6))] ⟨0, .leaf⟩)) := by kernel_rfl
theorem sign_7 : isStr (ans (eval env 400 (.call 7 [.lit (.int .i64 (.ofNat 7))] ⟨0, .leaf⟩))) = true := by kernel_rfl
theorem sign_7' : ans (eval env 400 (.call 7 [.lit (.int .i64 (.ofNat 7))] ⟨0, .leaf⟩)) = ans (eval env 400 (.call 8 [.lit (.int .i64 (.ofNat 7))] ⟨0, .leaf⟩)) := by kernel_rfl
theorem level_7 : isI64 (ans (eval env 400 (.call 9 [.lit (.int .i64 (.ofNat 7))] ⟨0, .leaf⟩))) = true := by kernel_rfl
theorem level_7' : ans (eval env 400 (.call 9 [.lit (.int .i64 (.ofNat 7))] ⟨0, .leaf⟩)) = ans (eval env 400 (.call 10 [.lit (.int .i64 (.ofNat 7))] ⟨0, .leaf⟩)) := by kernel_rfl
theorem sign_8 : isStr (ans (eval env 400 (.call 7 [.lit (.int .i64 (.ofNat 8))] ⟨0, .leaf⟩))) = true := by kernel_rfl
theorem sign_8' : ans (eval env 400 (.call 7 [.lit (.int .i64 (.ofNat 8))] ⟨0, .leaf⟩)) = ans (eval env 400 (.call 8 [.lit (.int .i64 (.ofNat 8))] ⟨0, .leaf⟩)) := by kernel_rfl
theorem level_8 : isI64 (ans (eval env 400 (.call 9 [.lit (.int .i64 (.ofNat 8))] ⟨0, .leaf⟩))) = true := by kernel_rfl
theorem level_8' : ans (eval env 400 (.call 9 [.lit (.int .i64 (.ofNat 8))] ⟨0, .leaf⟩)) = ans (eval env 400 (.call 10 [.lit (.int .i64 (.ofNat 8))] ⟨0, .leaf⟩)) := by kernel_rfl
theorem sign_9 : isStr (ans (eval env 400 (.call 7 [.lit (.int .i64 (.ofNat 9))] ⟨0, .leaf⟩))) = true := by kernel_rfl
theorem sign_9' : ans (eval env 400 (.call 7 [.lit (.int .i64 (.ofNat 9))] ⟨0, .leaf⟩)) = ans (eval env 400 (.call 8 [.lit (.int .i64 (.ofNat 9))] ⟨0, .leaf⟩)) := by kernel_rfl
theorem level_9 : isI64 (ans (eval env 400 (.call 9 [.lit (.int .i64 (.ofNat 9))] ⟨0, .leaf⟩))) = true := by kernel_rfl
theorem level_9' : ans (eval env 400 (.call 9 [.lit (.int .i64 (.ofNat 9))] ⟨0, .leaf⟩)) = ans (eval env 400 (.call 10 [.lit (.int .i64 (.ofNat 9))] ⟨0, .leaf⟩)) := by kernel_rfl
theorem sign_10 : isStr (ans (eval env 400 (.call 7 [.lit (.int .i64 (.ofNat 10))] ⟨0, .leaf⟩))) = true := by kernel_rfl
theorem sign_10' : ans (eval env 400 (.call 7 [.lit (.int .i64 (.ofNat 10))] ⟨0, .leaf⟩)) = ans (eval env 400 (.call 8 [.lit (.int .i64 (.ofNat 10))] ⟨0, .leaf⟩)) := by kernel_rfl
theorem level_10 : isI64 (ans (eval env 400 (.call 9 [.lit (.int .i64 (.ofNat 10))] ⟨0, .leaf⟩))) = true := by kernel_rfl
theorem level_10' : ans (eval env 400 (.call 9 [.lit (.int .i64 (.ofNat 10))] ⟨0, .leaf⟩)) = ans (eval env 400 (.call 10 [.lit (.int .i64 (.ofNat 10))] ⟨0, .leaf⟩)) := by kernel_rfl
theorem sign_11 : isStr (ans (eval env 400 (.call 7 [.lit (.int .i64 (.ofNat 11))] ⟨0, .leaf⟩))) = true := by kernel_rfl
theorem sign_11' : ans (eval env 400 (.call 7 [.lit (.int .i64 (.ofNat 11))] ⟨0, .leaf⟩)) = ans (eval env 400 (.call 8 [.lit (.int .i64 (.ofNat 11))] ⟨0, .leaf⟩)) := by kernel_rfl
theorem level_11 : isI64 (ans (eval env 400 (.call 9 [.lit (.int .i64 (.ofNat 11))] ⟨0, .leaf⟩))) = true := by kernel_rfl
theorem level_11' : ans (eval env 400 (.call 9 [.lit (.int .i64 (.ofNat 11))] ⟨0, .leaf⟩)) = ans (eval env 400 (.call 10 [.lit (.int .i64 (.ofNat 11))] ⟨0, .leaf⟩)) := by kernel_rfl
theorem sign_12 : isStr (ans (eval env 400 (.call 7 [.lit (.int .i64 (.ofNat 12))] ⟨0, .leaf⟩))) = true := by kernel_rfl
theorem sign_12' : ans (eval env 400 (.call 7 [.lit (.int .i64 (.ofNat 12))] ⟨0, .leaf⟩)) = ans (eval env 400 (.call 8 [.lit (.int .i64 (.ofNat 12))] ⟨0, .leaf⟩)) := by kernel_rfl
theorem level_12 : isI64 (ans (eval env 400 (.call 9 [.lit (.int .i64 (.ofNat 12))] ⟨0, .leaf⟩))) = true := by kernel_rfl
theorem level_12' : ans (eval env 400 (.call 9 [.lit (.int .i64 (.ofNat 12))] ⟨0, .leaf⟩)) = ans (eval env 400 (.call 10 [.lit (.int .i64 (.ofNat 12))] ⟨0, .leaf⟩)) := by kernel_rfl
theorem sign_13 : isStr (ans (eval env 400 (.call 7 [.lit (.int .i64 (.ofNat 13))] ⟨0, .leaf⟩))) = true := by kernel_rfl
theorem sign_13' : ans (eval env 400 (.call 7 [.lit (.int .i64 (.ofNat 13))] ⟨0, .leaf⟩)) = ans (eval env 400 (.call 8 [.lit (.int .i64 (.ofNat 13))] ⟨0, .leaf⟩)) := by kernel_rfl
theorem level_13 : isI64 (ans (eval env 400 (.call 9 [.lit (.int .i64 (.ofNat 13))] ⟨0, .leaf⟩))) = true := by kernel_rfl
theorem level_13' : ans (eval env 400 (.call 9 [.lit (.int .i64 (.ofNat 13))] ⟨0, .leaf⟩)) = ans (eval env 400 (.call 10 [.lit (.int .i64 (.ofNat 13))] ⟨0, .leaf⟩)) := by kernel_rfl
theorem sign_14 : isStr (ans (eval env 400 (.call 7 [.lit (.int .i64 (.ofNat 14))] ⟨0, .leaf⟩))) = true := by kernel_rfl
theorem sign_14' : ans (eval env 400 (.call 7 [.lit (.int .i64 (.ofNat 14))] ⟨0, .leaf⟩)) = ans (eval env 400 (.call 8 [.lit (.int .i64 (.ofNat 14))] ⟨0, .leaf⟩)) := by kernel_rfl
theorem level_14 : isI64 (ans (eval env 400 (.call 9 [.lit (.int .i64 (.ofNat 14))] ⟨0, .leaf⟩))) = true := by kernel_rfl
theorem level_14' : ans (eval env 400 (.call 9 [.lit (.int .i64 (.ofNat 14))] ⟨0, .leaf⟩)) = ans (eval env 400 (.call 10 [.lit (.int .i64 (.ofNat 14))] ⟨0, .leaf⟩)) := by kernel_rfl
theorem sign_15 : isStr (ans (eval env 400 (.call 7 [.lit (.int .i64 (.ofNat 15))] ⟨0, .leaf⟩))) = true := by kernel_rfl
theorem sign_15' : ans (eval env 400 (.call 7 [.lit (.int .i64 (.ofNat 15))] ⟨0, .leaf⟩)) = ans (eval env 400 (.call 8 [.lit (.int .i64 (.ofNat 15))] ⟨0, .leaf⟩)) := by kernel_rfl
theorem level_15 : isI64 (ans (eval env 400 (.call 9 [.lit (.int .i64 (.ofNat 15))] ⟨0, .leaf⟩))) = true := by kernel_rfl
theorem level_15' : ans (eval env 400 (.call 9 [.lit (.int .i64 (.ofNat 15))] ⟨0, .leaf⟩)) = ans (eval env 400 (.call 10 [.lit (.int .i64 (.ofNat 15))] ⟨0, .leaf⟩)) := by kernel_rfl
theorem sign_16 : isStr (ans (eval env 400 (.call 7 [.lit (.int .i64 (.ofNat 16))] ⟨0, .leaf⟩))) = true := by kernel_rfl
theorem sign_16' : ans (eval env 400 (.call 7 [.lit (.int .i64 (.ofNat 16))] ⟨0, .leaf⟩)) = ans (eval env 400 (.call 8 [.lit (.int .i64 (.ofNat 16))] ⟨0, .leaf⟩)) := by kernel_rfl
theorem level_16 : isI64 (ans (eval env 400 (.call 9 [.lit (.int .i64 (.ofNat 16))] ⟨0, .leaf⟩))) = true := by kernel_rfl
theorem level_16' : ans (eval env 400 (.call 9 [.lit (.int .i64 (.ofNat 16))] ⟨0, .leaf⟩)) = ans (eval env 400 (.call 10 [.lit (.int .i64 (.ofNat 16))] ⟨0, .leaf⟩)) := by kernel_rfl
theorem sign_17 : isStr (ans (eval env 400 (.call 7 [.lit (.int .i64 (.ofNat 17))] ⟨0, .leaf⟩))) = true := by kernel_rfl
theorem sign_17' : ans (eval env 400 (.call 7 [.lit (.int .i64 (.ofNat 17))] ⟨0, .leaf⟩)) = ans (eval env 400 (.call 8 [.lit (.int .i64 (.ofNat 17))] ⟨0, .leaf⟩)) := by kernel_rfl
theorem level_17 : isI64 (ans (eval env 400 (.call 9 [.lit (.int .i64 (.ofNat 17))] ⟨0, .leaf⟩))) = true := by kernel_rfl
theorem level_17' : ans (eval env 400 (.call 9 [.lit (.int .i64 (.ofNat 17))] ⟨0, .leaf⟩)) = ans (eval env 400 (.call 10 [.lit (.int .i64 (.ofNat 17))] ⟨0, .leaf⟩)) := by kernel_rfl
theorem sign_18 : isStr (ans (eval env 400 (.call 7 [.lit (.int .i64 (.ofNat 18))] ⟨0, .leaf⟩))) = true := by kernel_rfl
theorem sign_18' : ans (eval env 400 (.call 7 [.lit (.int .i64 (.ofNat 18))] ⟨0, .leaf⟩)) = ans (eval env 400 (.call 8 [.lit (.int .i64 (.ofNat 18))] ⟨0, .leaf⟩)) := by kernel_rfl
theorem level_18 : isI64 (ans (eval env 400 (.call 9 [.lit (.int .i64 (.ofNat 18))] ⟨0, .leaf⟩))) = true := by kernel_rfl
theorem level_18' : ans (eval env 400 (.call 9 [.lit (.int .i64 (.ofNat 18))] ⟨0, .leaf⟩)) = ans (eval env 400 (.call 10 [.lit (.int .i64 (.ofNat 18))] ⟨0, .leaf⟩)) := by kernel_rfl
theorem sign_19 : isStr (ans (eval env 400 (.call 7 [.lit (.int .i64 (.ofNat 19))] ⟨0, .leaf⟩))) = true := by kernel_rfl
theorem sign_19' : ans (eval env 400 (.call 7 [.lit (.int .i64 (.ofNat 19))] ⟨0, .leaf⟩)) = ans (eval env 400 (.call 8 [.lit (.int .i64 (.ofNat 19))] ⟨0, .leaf⟩)) := by kernel_rfl
theorem level_19 : isI64 (ans (eval env 400 (.call 9 [.lit (.int .i64 (.ofNat 19))] ⟨0, .leaf⟩))) = true := by kernel_rfl
theorem level_19' : ans (eval env 400 (.call 9 [.lit (.int .i64 (.ofNat 19))] ⟨0, .leaf⟩)) = ans (eval env 400 (.call 10 [.lit (.int .i64 (.ofNat 19))] ⟨0, .leaf⟩)) := by kernel_rfl
theorem sign_20 : isStr (ans (eval env 400 (.call 7 [.lit (.int .i64 (.ofNat 20))] ⟨0, .leaf⟩))) = true := by kernel_rfl
theorem sign_20' : ans (eval env 400 (.call 7 [.lit (.int .i64 (.ofNat 20))] ⟨0, .leaf⟩)) = ans (eval env 400 (.call 8 [.lit (.int .i64 (.ofNat 20))] ⟨0, .leaf⟩)) := by kernel_rfl
theorem level_20 : isI64 (ans (eval env 400 (.call 9 [.lit (.int .i64 (.ofNat 20))] ⟨0, .leaf⟩))) = true := by kernel_rfl
theorem level_20' : ans (eval env 400 (.call 9 [.lit (.int .i64 (.ofNat 20))] ⟨0, .leaf⟩)) = ans (eval env 400 (.call 10 [.lit (.int .i64 (.ofNat 20))] ⟨0, .leaf⟩)) := by kernel_rfl
theorem sign_21 : isStr (ans (eval env 400 (.call 7 [.lit (.int .i64 (.ofNat 21))] ⟨0, .leaf⟩))) = true := by kernel_rfl
theorem sign_21' : ans (eval env 400 (.call 7 [.lit (.int .i64 (.ofNat 21))] ⟨0, .leaf⟩)) = ans (eval env 400 (.call 8 [.lit (.int .i64 (.ofNat 21))] ⟨0, .leaf⟩)) := by kernel_rfl
theorem level_21 : isI64 (ans (eval env 400 (.call 9 [.lit (.int .i64 (.ofNat 21))] ⟨0, .leaf⟩))) = true := by kernel_rfl
theorem level_21' : ans (eval env 400 (.call 9 [.lit (.int .i64 (.ofNat 21))] ⟨0, .leaf⟩)) = ans (eval env 400 (.call 10 [.lit (.int .i64 (.ofNat 21))] ⟨0, .leaf⟩)) := by kernel_rfl
theorem sign_22 : isStr (ans (eval env 400 (.call 7 [.lit (.int .i64 (.ofNat 22))] ⟨0, .leaf⟩))) = true := by kernel_rfl
theorem sign_22' : ans (eval env 400 (.call 7 [.lit (.int .i64 (.ofNat 22))] ⟨0, .leaf⟩)) = ans (eval env 400 (.call 8 [.lit (.int .i64 (.ofNat 22))] ⟨0, .leaf⟩)) := by kernel_rfl
theorem level_22 : isI64 (ans (eval env 400 (.call 9 [.lit (.int .i64 (.ofNat 22))] ⟨0, .leaf⟩))) = true := by kernel_rfl
theorem level_22' : ans (eval env 400 (.call 9 [.lit (.int .i64 (.ofNat 22))] ⟨0, .leaf⟩)) = ans (eval env 400 (.call 10 [.lit (.int .i64 (.ofNat 22))] ⟨0, .leaf⟩)) := by kernel_rfl
theorem sign_23 : isStr (ans (eval env 400 (.call 7 [.lit (.int .i64 (.ofNat 23))] ⟨0, .leaf⟩))) = true := by kernel_rfl
theorem sign_23' : ans (eval env 400 (.call 7 [.lit (.int .i64 (.ofNat 23))] ⟨0, .leaf⟩)) = ans (eval env 400 (.call 8 [.lit (.int .i64 (.ofNat 23))] ⟨0, .leaf⟩)) := by kernel_rfl
theorem level_23 : isI64 (ans (eval env 400 (.call 9 [.lit (.int .i64 (.ofNat 23))] ⟨0, .leaf⟩))) = true := by kernel_rfl
theorem level_23' : ans (eval env 400 (.call 9 [.lit (.int .i64 (.ofNat 23))] ⟨0, .leaf⟩)) = ans (eval env 400 (.call 10 [.lit (.int .i64 (.ofNat 23))] ⟨0, .leaf⟩)) := by kernel_rfl
theorem sign_24 : isStr (ans (eval env 400 (.call 7 [.lit (.int .i64 (.ofNat 24))] ⟨0, .leaf⟩))) = true := by kernel_rfl
theorem sign_24' : ans (eval env 400 (.call 7 [.lit (.int .i64 (.ofNat 24))] ⟨0, .leaf⟩)) = ans (eval env 400 (.call 8 [.lit (.int .i64 (.ofNat 24))] ⟨0, .leaf⟩)) := by kernel_rfl
theorem level_24 : isI64 (ans (eval env 400 (.call 9 [.lit (.int .i64 (.ofNat 24))] ⟨0, .leaf⟩))) = true := by kernel_rfl
theorem level_24' : ans (eval env 400 (.call 9 [.lit (.int .i64 (.ofNat 24))] ⟨0, .leaf⟩)) = ans (eval env 400 (.call 10 [.lit (.int .i64 (.ofNat 24))] ⟨0, .leaf⟩)) := by kernel_rfl
theorem sign_25 : isStr (ans (eval env 400 (.call 7 [.lit (.int .i64 (.ofNat 25))] ⟨0, .leaf⟩))) = true := by kernel_rfl
theorem sign_25' : ans (eval env 400 (.call 7 [.lit (.int .i64 (.ofNat 25))] ⟨0, .leaf⟩)) = ans (eval env 400 (.call 8 [.lit (.int .i64 (.ofNat 25))] ⟨0, .leaf⟩)) := by kernel_rfl
theorem level_25 : isI64 (ans (eval env 400 (.call 9 [.lit (.int .i64 (.ofNat 25))] ⟨0, .leaf⟩))) = true := by kernel_rfl
theorem level_25' : ans (eval env 400 (.call 9 [.lit (.int .i64 (.ofNat 25))] ⟨0, .leaf⟩)) = ans (eval env 400 (.call 10 [.lit (.int .i64 (.ofNat 25))] ⟨0, .leaf⟩)) := by kernel_rfl
theorem sign_alike (x : Int) : ∃ v, ans (eval env 400 (.call 7 [.lit (.int .i64 x)] ⟨0, .leaf⟩)) = some (.string v) ∧ ans (eval env 400 (.call 8 [.lit (.int .i64 x)] ⟨0, .leaf⟩)) = some (.string v) := by
  refine int_cases (fun x => ∃ v, ans (eval env 400 (.call 7 [.lit (.int .i64 x)] ⟨0, .leaf⟩)) = some (.string v) ∧ ans (eval env 400 (.call 8 [.lit (.int .i64 x)] ⟨0, .leaf⟩)) = some (.string v)) 26 (fun m => alikeS (sign_neg m) (sign_neg' m)) (fun m => alikeS (sign_big m) (sign_big' m)) (fun m hm => ?_) x
  match m, hm with
  | 0, _ => exact alikeS sign_0 sign_0'
  | 1, _ => exact alikeS sign_1 sign_1'
  | 2, _ => exact alikeS sign_2 sign_2'
  | 3, _ => exact alikeS sign_3 sign_3'
  | 4, _ => exact alikeS sign_4 sign_4'
  | 5, _ => exact alikeS sign_5 sign_5'
  | 6, _ => exact alikeS sign_6 sign_6'
  | 7, _ => exact alikeS sign_7 sign_7'
  | 8, _ => exact alikeS sign_8 sign_8'
  | 9, _ => exact alikeS sign_9 sign_9'
  | 10, _ => exact alikeS sign_10 sign_10'
  | 11, _ => exact alikeS sign_11 sign_11'
  | 12, _ => exact alikeS sign_12 sign_12'
  | 13, _ => exact alikeS sign_13 sign_13'
  | 14, _ => exact alikeS sign_14 sign_14'
  | 15, _ => exact alikeS sign_15 sign_15'
  | 16, _ => exact alikeS sign_16 sign_16'
  | 17, _ => exact alikeS sign_17 sign_17'
  | 18, _ => exact alikeS sign_18 sign_18'
  | 19, _ => exact alikeS sign_19 sign_19'
  | 20, _ => exact alikeS sign_20 sign_20'
  | 21, _ => exact alikeS sign_21 sign_21'
  | 22, _ => exact alikeS sign_22 sign_22'
  | 23, _ => exact alikeS sign_23 sign_23'
  | 24, _ => exact alikeS sign_24 sign_24'
  | 25, _ => exact alikeS sign_25 sign_25'
  | m + 26, h => exact absurd h (by omega)
theorem level_alike (x : Int) : ∃ v, ans (eval env 400 (.call 9 [.lit (.int .i64 x)] ⟨0, .leaf⟩)) = some (.int .i64 v) ∧ ans (eval env 400 (.call 10 [.lit (.int .i64 x)] ⟨0, .leaf⟩)) = some (.int .i64 v) := by
  refine int_cases (fun x => ∃ v, ans (eval env 400 (.call 9 [.lit (.int .i64 x)] ⟨0, .leaf⟩)) = some (.int .i64 v) ∧ ans (eval env 400 (.call 10 [.lit (.int .i64 x)] ⟨0, .leaf⟩)) = some (.int .i64 v)) 26 (fun m => alikeI (level_neg m) (level_neg' m)) (fun m => alikeI (level_big m) (level_big' m)) (fun m hm => ?_) x
  match m, hm with
  | 0, _ => exact alikeI level_0 level_0'
  | 1, _ => exact alikeI level_1 level_1'
  | 2, _ => exact alikeI level_2 level_2'
  | 3, _ => exact alikeI level_3 level_3'
  | 4, _ => exact alikeI level_4 level_4'
  | 5, _ => exact alikeI level_5 level_5'
  | 6, _ => exact alikeI level_6 level_6'
  | 7, _ => exact alikeI level_7 level_7'
  | 8, _ => exact alikeI level_8 level_8'
  | 9, _ => exact alikeI level_9 level_9'
  | 10, _ => exact alikeI level_10 level_10'
  | 11, _ => exact alikeI level_11 level_11'
  | 12, _ => exact alikeI level_12 level_12'
  | 13, _ => exact alikeI level_13 level_13'
  | 14, _ => exact alikeI level_14 level_14'
  | 15, _ => exact alikeI level_15 level_15'
  | 16, _ => exact alikeI level_16 level_16'
  | 17, _ => exact alikeI level_17 level_17'
  | 18, _ => exact alikeI level_18 level_18'
  | 19, _ => exact alikeI level_19 level_19'
  | 20, _ => exact alikeI level_20 level_20'
  | 21, _ => exact alikeI level_21 level_21'
  | 22, _ => exact alikeI level_22 level_22'
  | 23, _ => exact alikeI level_23 level_23'
  | 24, _ => exact alikeI level_24 level_24'
  | 25, _ => exact alikeI level_25 level_25'
  | m + 26, h => exact absurd h (by omega)
end Go.Proofs.YtgfhmhpidijdoaaGreatDoor

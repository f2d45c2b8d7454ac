/- What the pieces of the two tests of a format come to: closed facts. -/
import Derived.Test.YtiamenedboifeabGreatDoorSegs
namespace Go.Proofs.YtiamenedboifeabGreatDoor
open Go Go.Proofs.YtiamenedboifeabGreatDoor.Rx
set_option maxRecDepth 100000

def i64 (n : Int) : AV := .lit (.int .i64 n)
def cmpL (o : BinOp) (k : Nat) (n : Int) : Exp := .bin o (.sym k) (.lit (.int .i64 n))
def sBox : List AV := [.ex (.sym 0), .ex (.sym 1), .ex (.sym 2), .ex (.sym 3)]
def inc (k : Nat) : AV := .ex (.bin .add (.sym k) (.lit (.int .i64 1)))
/-- The memory: what the format was put into. -/
def sMem : Mem := ⟨21, T.leaf.set 20 (.cells 25 4 (T.ofList sBox) false 0 false)⟩
def stOf (ts : List Nat) (vs : List AV) : St := ⟨(ts.zip vs).foldl (fun F x => F.set x.1 x.2) .leaf, [], sMem, none⟩
def st0 : St := ⟨T.ofList [.agg sBox, i64 256], [], ⟨20, .leaf⟩, none⟩

noncomputable def runL (E : Env) (n : Nat) (l : List Code) (s : St) : Option (AExit × St) := evalL (codeOf (eval E 200)) n l s
def rets (c : Int) (o : Option (AExit × St)) : Bool := after o .ret [4] [i64 c]
def goesOn (ts : List Nat) (vs : List AV) (x : AExit) (o : Option (AExit × St)) : Bool := afterBox o x ts vs 20 25 4 false 0 false sBox

def nBig : Exp := cmpL .gtr 4 64
def mBig : Exp := cmpL .gtr 7 8
def kNeg : Exp := cmpL .lss 0 0
def kBig : Exp := cmpL .gtr 0 7
def kTime : Exp := cmpL .eql 0 5
def okF : List (Exp × Bool) := [(nBig, false), (mBig, false), (kNeg, false), (kBig, false)]

def ts14 : List Nat := [1, 2, 39, 40, 41, 5]
def ts6 : List Nat := [1, 2, 6, 5]
def h14 (i c : AV) : List AV := [i64 256, .ptr 20 0, .ex (.sym 1), .ex (.sym 4), i, c]
def h6 (i c : AV) : List AV := [i64 256, .ptr 20 0, i, c]

section
variable (sy : Rx.Place) (old : Nat → Option (Option Obj))
theorem pre14_a : rets 3 (runL (senv none none false false .off sy old [(nBig, true)]) 117 pre14 st0) = true := by as_aux_lemma => kernel_rfl
theorem pre14_b : rets 3 (runL (senv none none false false .off sy old [(nBig, false), (mBig, true)]) 117 pre14 st0) = true := by as_aux_lemma => kernel_rfl
theorem pre14_c : rets 100 (runL (senv none none false false .off sy old [(nBig, false), (mBig, false), (kNeg, true)]) 117 pre14 st0) = true := by as_aux_lemma => kernel_rfl
theorem pre14_d : rets 100 (runL (senv none none false false .off sy old [(nBig, false), (mBig, false), (kNeg, false), (kBig, true)]) 117 pre14 st0) = true := by as_aux_lemma => kernel_rfl
theorem pre14_e : rets 100 (runL (senv none none false false .off sy old ((.sym 3, true) :: (kTime, false) :: okF)) 117 pre14 st0) = true := by as_aux_lemma => kernel_rfl
theorem pre14_f : goesOn ts14 (h14 (i64 0) (i64 0)) .normal (runL (senv none none false false .off sy old ((.sym 3, true) :: (kTime, true) :: okF)) 117 pre14 st0) = true := by as_aux_lemma => kernel_rfl
theorem pre14_g : goesOn ts14 (h14 (i64 0) (i64 0)) .normal (runL (senv none none false false .off sy old ((.sym 3, false) :: okF)) 117 pre14 st0) = true := by as_aux_lemma => kernel_rfl
theorem pre6_a : rets 3 (runL (senv none none false false .off sy old [(nBig, true)]) 122 pre6 st0) = true := by as_aux_lemma => kernel_rfl
theorem pre6_b : rets 3 (runL (senv none none false false .off sy old [(nBig, false), (mBig, true)]) 122 pre6 st0) = true := by as_aux_lemma => kernel_rfl
theorem pre6_c : rets 100 (runL (senv none none false false .off sy old [(nBig, false), (mBig, false), (kNeg, true)]) 122 pre6 st0) = true := by as_aux_lemma => kernel_rfl
theorem pre6_d : rets 100 (runL (senv none none false false .off sy old [(nBig, false), (mBig, false), (kNeg, false), (kBig, true)]) 122 pre6 st0) = true := by as_aux_lemma => kernel_rfl
theorem pre6_e : rets 100 (runL (senv none none false false .off sy old ((.sym 3, true) :: (kTime, false) :: okF)) 122 pre6 st0) = true := by as_aux_lemma => kernel_rfl
theorem pre6_f : goesOn ts6 (h6 (i64 0) (i64 0)) .normal (runL (senv none none false false .off sy old ((.sym 3, true) :: (kTime, true) :: okF)) 122 pre6 st0) = true := by as_aux_lemma => kernel_rfl
theorem pre6_g : goesOn ts6 (h6 (i64 0) (i64 0)) .normal (runL (senv none none false false .off sy old ((.sym 3, false) :: okF)) 122 pre6 st0) = true := by as_aux_lemma => kernel_rfl

def more : Exp := .bin .lss (.sym 5) (.sym 4)
def num2 : Exp := cmpL .eql 9 2
def num3 : Exp := cmpL .eql 9 3
theorem la14_end : goesOn [1, 2, 5] [i64 256, .ptr 20 0, .ex (.sym 6)] (.exit 0) (runL (senv none none false false .off sy old [(more, false)]) 117 [la14] (stOf ts14 (h14 (.ex (.sym 5)) (.ex (.sym 6))))) = true := by as_aux_lemma => kernel_rfl
theorem la14_bad1 (r : Option Bool) : rets 100 (runL (senv (some false) r true false .off sy old [(more, true)]) 117 [la14] (stOf ts14 (h14 (.ex (.sym 5)) (.ex (.sym 6))))) = true := by as_aux_lemma => kernel_rfl
theorem la14_bad2 : rets 100 (runL (senv (some true) (some false) true false .off sy old [(more, true)]) 117 [la14] (stOf ts14 (h14 (.ex (.sym 5)) (.ex (.sym 6))))) = true := by as_aux_lemma => kernel_rfl
theorem la14_num2 : goesOn ts14 (h14 (inc 5) (inc 6)) .normal (runL (senv (some true) (some true) true false .off sy old [(num2, true), (more, true)]) 117 [la14] (stOf ts14 (h14 (.ex (.sym 5)) (.ex (.sym 6))))) = true := by as_aux_lemma => kernel_rfl
theorem la14_num3 : goesOn ts14 (h14 (inc 5) (inc 6)) .normal (runL (senv (some true) (some true) true false .off sy old [(num2, false), (num3, true), (more, true)]) 117 [la14] (stOf ts14 (h14 (.ex (.sym 5)) (.ex (.sym 6))))) = true := by as_aux_lemma => kernel_rfl
theorem la14_num : goesOn ts14 (h14 (inc 5) (.ex (.sym 6))) .normal (runL (senv (some true) (some true) true false .off sy old [(num2, false), (num3, false), (more, true)]) 117 [la14] (stOf ts14 (h14 (.ex (.sym 5)) (.ex (.sym 6))))) = true := by as_aux_lemma => kernel_rfl
theorem la6_end : goesOn [1, 2, 5] [i64 256, .ptr 20 0, .ex (.sym 6)] (.exit 0) (runL (senv none none false false .off sy old [(more, false)]) 122 [la6] (stOf ts6 (h6 (.ex (.sym 5)) (.ex (.sym 6))))) = true := by as_aux_lemma => kernel_rfl
theorem la6_bad1 (r : Option Bool) : rets 100 (runL (senv (some false) r true false .off sy old [(more, true)]) 122 [la6] (stOf ts6 (h6 (.ex (.sym 5)) (.ex (.sym 6))))) = true := by as_aux_lemma => kernel_rfl
theorem la6_bad2 : rets 100 (runL (senv (some true) (some false) true false .off sy old [(more, true)]) 122 [la6] (stOf ts6 (h6 (.ex (.sym 5)) (.ex (.sym 6))))) = true := by as_aux_lemma => kernel_rfl
theorem la6_num2 : goesOn ts6 (h6 (inc 5) (inc 6)) .normal (runL (senv (some true) (some true) true false .off sy old [(num2, true), (more, true)]) 122 [la6] (stOf ts6 (h6 (.ex (.sym 5)) (.ex (.sym 6))))) = true := by as_aux_lemma => kernel_rfl
theorem la6_num3 : goesOn ts6 (h6 (inc 5) (inc 6)) .normal (runL (senv (some true) (some true) true false .off sy old [(num2, false), (num3, true), (more, true)]) 122 [la6] (stOf ts6 (h6 (.ex (.sym 5)) (.ex (.sym 6))))) = true := by as_aux_lemma => kernel_rfl
theorem la6_num : goesOn ts6 (h6 (inc 5) (.ex (.sym 6))) .normal (runL (senv (some true) (some true) true false .off sy old [(num2, false), (num3, false), (more, true)]) 122 [la6] (stOf ts6 (h6 (.ex (.sym 5)) (.ex (.sym 6))))) = true := by as_aux_lemma => kernel_rfl

def numBig : Exp := cmpL .gtr 6 1
def tm14 : List Nat := [1, 2, 70, 71, 72]
def tm6 : List Nat := [1, 2, 5, 8]
def g14 (i : AV) : List AV := [i64 256, .ptr 20 0, .ex (.sym 2), .ex (.sym 7), i]
def g6 (i : AV) : List AV := [i64 256, .ptr 20 0, .ex (.sym 6), i]
theorem mid14_a : rets 100 (runL (senv none none false false .off sy old [(numBig, true)]) 117 mid14 (stOf [1, 2, 5] [i64 256, .ptr 20 0, .ex (.sym 6)])) = true := by as_aux_lemma => kernel_rfl
theorem mid14_b : goesOn tm14 (g14 (i64 0)) .normal (runL (senv none none false false .off sy old [(numBig, false)]) 117 mid14 (stOf [1, 2, 5] [i64 256, .ptr 20 0, .ex (.sym 6)])) = true := by as_aux_lemma => kernel_rfl
theorem mid6_a : goesOn tm6 (g6 (i64 0)) .normal (runL (senv none none false false .off sy old []) 122 mid6 (stOf [1, 2, 5] [i64 256, .ptr 20 0, .ex (.sym 6)])) = true := by as_aux_lemma => kernel_rfl
theorem post14_a : rets 0 (runL (senv none none false false .off sy old []) 117 post14 (stOf [1, 2] [i64 256, .ptr 20 0])) = true := by as_aux_lemma => kernel_rfl
theorem post6_a : rets 100 (runL (senv none none false false .off sy old [(numBig, true)]) 122 post6 (stOf [1, 2, 5] [i64 256, .ptr 20 0, .ex (.sym 6)])) = true := by as_aux_lemma => kernel_rfl
theorem post6_b : rets 0 (runL (senv none none false false .off sy old [(numBig, false)]) 122 post6 (stOf [1, 2, 5] [i64 256, .ptr 20 0, .ex (.sym 6)])) = true := by as_aux_lemma => kernel_rfl

def more2 : Exp := .bin .lss (.sym 5) (.sym 7)
theorem lb14_end : goesOn [1, 2] [i64 256, .ptr 20 0] (.exit 2) (runL (senv none none false false .off sy old [(more2, false)]) 117 [lb14] (stOf tm14 (g14 (.ex (.sym 5))))) = true := by as_aux_lemma => kernel_rfl
theorem lb6_end : goesOn [1, 2, 5] [i64 256, .ptr 20 0, .ex (.sym 6)] (.exit 2) (runL (senv none none false false .off sy old [(more2, false)]) 122 [lb6] (stOf tm6 (g6 (.ex (.sym 5))))) = true := by as_aux_lemma => kernel_rfl
end

def and2 (a b : Bool) : Bool := match a with
  | true => b
  | false => false
theorem and2_ok {a b : Bool} (h : and2 a b = true) : a = true ∧ b = true := by
  cases a with
  | true => exact ⟨rfl, h⟩
  | false => cases h
/-- One map: both refuse it, or both go on. -/
noncomputable def chkBad (E : Env) : Bool := and2 (rets 100 (runL E 117 [lb14] (stOf tm14 (g14 (.ex (.sym 5)))))) (rets 100 (runL E 122 [lb6] (stOf tm6 (g6 (.ex (.sym 5))))))
noncomputable def chkGo (E : Env) : Bool :=
  and2 (goesOn tm14 (g14 (inc 5)) .normal (runL E 117 [lb14] (stOf tm14 (g14 (.ex (.sym 5)))))) (goesOn tm6 (g6 (inc 5)) .normal (runL E 122 [lb6] (stOf tm6 (g6 (.ex (.sym 5))))))
noncomputable def chkM (bad : Bool) (E : Env) : Bool :=
  match bad with
  | true => chkBad E
  | false => chkGo E
/-- Is the number nought? -/
def vZero : Exp := .bin .eql (.sym 18) (.lit (.float .f64 0))
def mTree (r : Bool) : DB := .node (cmpL .lss 17 18) (.leaf true) (.node (cmpL .gtr 17 23) (.leaf true) (.node (cmpL .lss 19 0) (.leaf true) (.node (cmpL .geq 19 256) (.leaf true) (.leaf r))))
section
variable (sy : Rx.Place) (old : Nat → Option (Option Obj))
theorem map_nan : (mTree true).ok (senv none none false true .nan sy old []) chkM [(more2, true)] = true := by as_aux_lemma => kernel_rfl
theorem map_fin : (mTree false).ok (senv none none false true .fin sy old []) chkM [(vZero, false), (more2, true)] = true := by as_aux_lemma => kernel_rfl
theorem map_inf : (mTree true).ok (senv none none false true (.lit 9218868437227405312) sy old []) chkM [(more2, true)] = true := by as_aux_lemma => kernel_rfl
theorem map_ninf : (mTree true).ok (senv none none false true (.lit 18442240474082181120) sy old []) chkM [(more2, true)] = true := by as_aux_lemma => kernel_rfl
theorem map_zero : (mTree false).ok (senv none none false true (.lit 0) sy old []) chkM [(more2, true)] = true := by as_aux_lemma => kernel_rfl
theorem map_nzero : (mTree true).ok (senv none none false true (.lit 9223372036854775808) sy old []) chkM [(more2, true)] = true := by as_aux_lemma => kernel_rfl
end
end Go.Proofs.YtiamenedboifeabGreatDoor

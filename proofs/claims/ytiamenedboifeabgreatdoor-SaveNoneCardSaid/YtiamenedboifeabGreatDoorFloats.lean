/- What a map's number is: none at all, finite, or one of four. -/
import Derived.Test.YtiamenedboifeabGreatDoorSegOk
namespace Go.Proofs.YtiamenedboifeabGreatDoor
open Go Go.Proofs.YtiamenedboifeabGreatDoor.Rx
set_option maxRecDepth 100000

def fvals (v : Nat) : List Value := [.float .f64 v, .int .u64 v, .float .f64 (v % 9223372036854775808)]
def ftys : T Ty := T.ofList [.flt .f64, .int .u64, .flt .f64]
/-- Does the operand stand for that function? -/
def isFn (f : Nat) : AV → Bool
  | .lit (.func (.func h) a b) => Nat.beq h f && a.toList.isEmpty && b.toList.isEmpty
  | _ => false
theorem isFn_ok {f : Nat} {a : AV} {ρ : Rx.Place} {x : Value} (h : isFn f a = true) (hx : VR ρ a x) : x = .func (.func f) #[] #[] := by
  unfold isFn at h
  split at h
  · simp only [Bool.and_eq_true, List.isEmpty_iff] at h
    obtain ⟨⟨h1, h2⟩, h3⟩ := h
    have h1 := Nat.eq_of_beq_eq_true h1
    have h2 := Array.toList_eq_nil_iff.1 h2
    have h3 := Array.toList_eq_nil_iff.1 h3
    subst h1 h2 h3
    simpa only [VR] using hx
  · cases h
def fopc (op : Op) (g : Operand → AV) : Option AV :=
  match op with
  | .call c => match c.callee with
    | .value (.func f) => match c.args.toList with
      | [x] => match g x with
        | .ex (.sym k) => match Nat.beq f 72 && Nat.beq k 0 && isFn f (g (.func f)) with
          | true => some (.ex (.sym 1))
          | false => none
        | .ex (.bin o (.sym k) (.lit v)) => match Nat.beq f 120 && Nat.beq k 1 && decide (o = .andNot) && litSame v (.int .u64 9223372036854775808) && isFn f (g (.func f)) with
          | true => some (.ex (.sym 2))
          | false => none
        | _ => none
      | _ => none
    | _ => none
  | _ => none
noncomputable def fenv (sy : Rx.Place) (old : Nat → Option (Option Obj)) (facts : List (Exp × Bool)) : Env := env.plus (fun _ _ => none) fopc (fun _ _ => none) sy old ftys facts
def notSelf : Exp := .bin .neq (.sym 0) (.sym 0)
def beyond : Exp := .bin .gtr (.sym 2) (.lit (.float .f64 9218868437227405311))
def isB (b : Bool) : Option Value → Bool
  | some (.bool x) => decide (x = b)
  | _ => false
theorem isB_ok {b : Bool} {o : Option Value} (h : isB b o = true) : o = some (.bool b) := by
  unfold isB at h
  split at h
  · rw [of_decide_eq_true h]
  · cases h
section
variable (sy : Rx.Place) (old : Nat → Option (Option Obj))
theorem nan_t : isB true (ans (eval (fenv sy old [(notSelf, true)]) 200 (.call (.fn 39) [.ex (.sym 0)] ⟨4, .leaf⟩))) = true := by as_aux_lemma => kernel_rfl
theorem nan_f : isB false (ans (eval (fenv sy old [(notSelf, false)]) 200 (.call (.fn 39) [.ex (.sym 0)] ⟨4, .leaf⟩))) = true := by as_aux_lemma => kernel_rfl
theorem inf_f : isB false (ans (eval (fenv sy old [(beyond, false)]) 200 (.call (.fn 40) [.ex (.sym 0), .lit (.int .i64 0)] ⟨4, .leaf⟩))) = true := by as_aux_lemma => kernel_rfl
end

theorem ftys_ok {b : Nat} {v : Nat} : ∀ i t, ftys.get i = some t → ∃ lc, symTab b (fvals v) i = some lc ∧ hasTy lc.val t = true := by
  intro i t h
  unfold ftys at h
  rw [T.get_ofList] at h
  match i, h with
  | 0, h | 1, h | 2, h =>
    simp at h
    subst h
    exact ⟨_, rfl, rfl⟩
  | i + 3, h => simp at h

theorem ext72 : env.ext.get 72 = some 1 := by kernel_rfl
theorem ext120 : env.ext.get 120 = some 2 := by kernel_rfl

theorem fenv_ok {W : World} {B v : Nat} {facts : List (Exp × Bool)} (hf : ∀ f ∈ facts, f.1.ev (symTab B (fvals v)) = some (.bool f.2)) : (fenv (symTab B (fvals v)) (oldOf W) facts).OK := by
  refine env_ok.plus (fun _ _ _ h => by cases h) ?_ (fun _ _ _ h => by cases h) ftys_ok hf
  intro op g u hu base ρ w e hst hle hx o ho
  cases op with
  | call c =>
    simp only [fopc] at hu
    split at hu
    · rename_i f hcal
      split at hu
      · rename_i x hargs
        have harr : c.args.map e = #[e x] := Array.ext' (by rw [Array.toList_map, hargs]; rfl)
        split at hu
        · rename_i k hgx
          split at hu
          · rename_i hb
            simp only [Bool.and_eq_true] at hb
            have h1 := Nat.eq_of_beq_eq_true hb.1.1
            have h2 := Nat.eq_of_beq_eq_true hb.1.2
            have h5 := isFn_ok hb.2 (hx _)
            subst h1 h2
            simp only [Option.some.injEq] at hu
            subst hu
            have hex := ex_val hle (k := 0) (v := .float .f64 v) rfl (by rw [← hgx]; exact hx x)
            refine ⟨.int .u64 v, ?_, ex_VR hle (k := 1) rfl rfl⟩
            rw [exec_func ho hcal h5, env_ok.ext 72 1 ext72, harr, hex]
            rfl
          · cases hu
        · rename_i o' k v' hgx
          split at hu
          · rename_i hb
            simp only [Bool.and_eq_true] at hb
            have h1 := Nat.eq_of_beq_eq_true hb.1.1.1.1
            have h2 := Nat.eq_of_beq_eq_true hb.1.1.1.2
            have h3 := of_decide_eq_true hb.1.1.2
            have h4 := litSame_ok hb.1.2
            have h5 := isFn_ok hb.2 (hx _)
            subst h1 h2 h3 h4
            simp only [Option.some.injEq] at hu
            subst hu
            have h0 := hx x
            rw [hgx] at h0
            simp only [VR] at h0
            have he : (Exp.bin .andNot (.sym 1) (.lit (.int .u64 9223372036854775808))).ev (symTab B (fvals v)) = some (.int .u64 (v % 9223372036854775808 : Nat)) := by
              show evBin .andNot (.int .u64 v) (.int .u64 9223372036854775808) = _
              exact abs_bits v
            have he2 := Exp.ev_mono hle he
            rw [h0.1, Option.some.injEq] at he2
            refine ⟨.float .f64 (v % 9223372036854775808), ?_, ex_VR hle (k := 2) rfl rfl⟩
            rw [exec_func ho hcal h5, env_ok.ext 120 2 ext120, harr, he2]
            rfl
          · cases hu
        · cases hu
      · cases hu
    · cases hu
  | _ => cases hu

theorem says_nan {W : World} (cs : Consts W) {v : Nat} {b : Bool} (h : (FloatKind.f64.format.order v v != some .eq) = b) : Says W 39 #[.float .f64 v] b := by
  intro w hw
  have hf : ∀ B, notSelf.ev (symTab B (fvals v)) = some (.bool b) := fun B => by
    show evBin .neq (.float .f64 v) (.float .f64 v) = _
    simp [evBin, Go.binOp, Op.floatCmp, pure, pure0, h]
  have hv : VRs (symTab W.heap.size (fvals v)) [.ex (.sym 0)] [.float .f64 v] := by
    simp only [VRs, VR]
    exact ⟨_, _, rfl, ⟨rfl, rfl⟩, rfl⟩
  cases b with
  | true => exact sym_call (fenv_ok (W := W) (one_fact (hf _))) (isB_ok (nan_t _ _)) w rfl hw.1 (show 3 ≤ 4 by decide) (hw.still cs) hv
  | false => exact sym_call (fenv_ok (W := W) (one_fact (hf _))) (isB_ok (nan_f _ _)) w rfl hw.1 (show 3 ≤ 4 by decide) (hw.still cs) hv

theorem says_inf {W : World} (cs : Consts W) {v : Nat} (h : FloatKind.f64.format.order (v % 9223372036854775808) 9218868437227405311 ≠ some .gt) : Says W 40 #[.float .f64 v, .int .i64 0] false := by
  intro w hw
  have hf : ∀ B, beyond.ev (symTab B (fvals v)) = some (.bool false) := fun B => by
    show evBin .gtr (.float .f64 (v % 9223372036854775808)) (.float .f64 9218868437227405311) = _
    have : (FloatKind.f64.format.order (v % 9223372036854775808) 9218868437227405311 == some .gt) = false := by
      rw [beq_eq_false_iff_ne]; exact h
    simp [evBin, Go.binOp, Op.floatCmp, pure, pure0, this]
  have hv : VRs (symTab W.heap.size (fvals v)) [.ex (.sym 0), .lit (.int .i64 0)] [.float .f64 v, .int .i64 0] := by
    simp only [VRs, VR]
    exact ⟨_, _, rfl, ⟨rfl, rfl⟩, _, _, rfl, rfl, rfl⟩
  exact sym_call (fenv_ok (W := W) (one_fact (hf _))) (isB_ok (inf_f _ _)) w rfl hw.1 (show 3 ≤ 4 by decide) (hw.still cs) hv
end Go.Proofs.YtiamenedboifeabGreatDoor

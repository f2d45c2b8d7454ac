/- Every map of a format: both tests refuse it, or both go on. -/
import Derived.Test.YtiamenedboifeabGreatDoorFloats
import Derived.Test.YtiamenedboifeabGreatDoorSegLoop
namespace Go.Proofs.YtiamenedboifeabGreatDoor
open Go Go.Proofs.YtiamenedboifeabGreatDoor.Rx
set_option maxRecDepth 100000

theorem ev_base {b b' : Nat} {l : List Value} : ∀ e : Exp, e.ev (symTab b l) = e.ev (symTab b' l)
  | .sym k => by
    cases h : l[k]? <;> simp only [Exp.ev, symTab, h]
  | .lit _ => rfl
  | .bin o x y => by simp only [Exp.ev, ev_base (b := b) (b' := b') x, ev_base (b := b) (b' := b') y]
  | .not x => by simp only [Exp.ev, ev_base (b := b) (b' := b') x]
  | .len x => by simp only [Exp.ev, ev_base (b := b) (b' := b') x]

theorem map_fin' {W : World} {S : Sy} {cl : Cl} {d : DB} {fs : List (Exp × Bool)} (hcl : ClOK W S.vl cl) (hd : ∀ sy old, d.ok (senv none none false true cl sy old []) chkM fs = true) (hf : ∀ f ∈ fs, f.1.ev (symTab 0 S.vals) = some (.bool f.2)) :
    ∃ r cl fs, ClOK W S.vl cl ∧ (∀ b, ∀ f ∈ fs, f.1.ev (symTab b S.vals) = some (.bool f.2)) ∧ ∀ sy old, chkM r (senv none none false true cl sy old fs) = true := by
  obtain ⟨r, fs', h1, h2⟩ := DB.ok_all (ι := Rx.Place × (Nat → Option (Option Obj))) (E := fun i => senv none none false true cl i.1 i.2 []) (ts := stys) (fun _ => rfl) (stys_ok (b := 0) (S := S)) (fun i => hd i.1 i.2) hf
  exact ⟨r, cl, fs', hcl, fun b f hm => by rw [ev_base (b := b) (b' := 0)]; exact h1 f hm, fun sy old => h2 (sy, old)⟩

theorem map_any {W : World} {S : Sy} (cs : Consts W) (hlt : S.i < S.m) (hv : S.vl < 18446744073709551616) :
    ∃ r cl fs, ClOK W S.vl cl ∧ (∀ b, ∀ f ∈ fs, f.1.ev (symTab b S.vals) = some (.bool f.2)) ∧ ∀ sy old, chkM r (senv none none false true cl sy old fs) = true := by
  have hm : more2.ev (symTab 0 S.vals) = some (.bool true) := by
    have := less_ev (B := 0) (l := S.vals) (j := 5) (k := 7) (n := S.i) (m := S.m) rfl rfl
    rw [decide_eq_true hlt] at this
    exact this
  have fin : ∀ {s : Bool} {m : Nat} {i : Int}, Ieee.double.read S.vl = .number s m i → m ≠ 0 → FloatKind.f64.format.order (S.vl % 9223372036854775808) 9218868437227405311 ≠ some .gt →
      ∃ r cl fs, ClOK W S.vl cl ∧ (∀ b, ∀ f ∈ fs, f.1.ev (symTab b S.vals) = some (.bool f.2)) ∧ ∀ sy old, chkM r (senv none none false true cl sy old fs) = true := by
    intro s m i hr h0 hi
    refine map_fin' (cl := .fin) ⟨sub_fin hr, says_nan cs (by rw [order_self hr]; rfl), says_inf cs hi⟩ map_fin (two_facts ?_ hm)
    show evBin .eql (.float .f64 S.vl) (.float .f64 0) = _
    have : (FloatKind.f64.format.order S.vl 0 == some .eq) = false := by
      rw [beq_eq_false_iff_ne]; exact order_nought hr h0
    simp [evBin, Go.binOp, Op.floatCmp, pure, pure0, this]
  have hmax : Ieee.double.read 9218868437227405311 = .number false 9007199254740991 971 := by rw [read64]; rfl
  have hr := read64 S.vl
  by_cases c1 : S.vl % 9223372036854775808 < 4503599627370496
  · rw [if_pos c1] at hr
    by_cases c0 : S.vl % 9223372036854775808 = 0
    · have : S.vl = 0 ∨ S.vl = 9223372036854775808 := by omega
      rcases this with h | h
      · exact map_fin' (cl := .lit 0) h map_zero (one_fact hm)
      · exact map_fin' (cl := .lit 9223372036854775808) h map_nzero (one_fact hm)
    · refine fin hr c0 (order_fin (m := S.vl % 9223372036854775808) (n := 9007199254740991) (i := -1074) (j := 971) ?_ hmax (by omega) (by omega))
      rw [read64, Nat.mod_mod, if_pos c1]
      congr 1
      simp [Nat.div_eq_of_lt (Nat.mod_lt S.vl (show 0 < 9223372036854775808 by decide))]
  · rw [if_neg c1] at hr
    by_cases c2 : S.vl % 9223372036854775808 < 9218868437227405312
    · rw [if_pos c2] at hr
      refine fin hr (by omega) (order_fin (m := 4503599627370496 + S.vl % 9223372036854775808 % 4503599627370496) (n := 9007199254740991) (i := -1074 + ((S.vl % 9223372036854775808 / 4503599627370496 - 1 : Nat) : Int)) (j := 971) ?_ hmax (by omega) (by omega))
      rw [read64, Nat.mod_mod, if_neg c1, if_pos c2]
      congr 1
      simp [Nat.div_eq_of_lt (Nat.mod_lt S.vl (show 0 < 9223372036854775808 by decide))]
    · rw [if_neg c2] at hr
      by_cases c3 : S.vl % 9223372036854775808 = 9218868437227405312
      · have : S.vl = 9218868437227405312 ∨ S.vl = 18442240474082181120 := by omega
        rcases this with h | h
        · exact map_fin' (cl := .lit 9218868437227405312) h map_inf (one_fact hm)
        · exact map_fin' (cl := .lit 18442240474082181120) h map_ninf (one_fact hm)
      · rw [if_neg c3] at hr
        refine map_fin' (cl := .nan) ⟨order_nan (by omega), ?_, says_nan cs (by rw [order_nan (by omega)]; rfl)⟩ map_nan (one_fact hm)
        show ((Ieee.double.read S.vl).sum (Ieee.double.read S.vl).opposite).map Ieee.double.write = none
        rw [hr]
        rfl
end Go.Proofs.YtiamenedboifeabGreatDoor

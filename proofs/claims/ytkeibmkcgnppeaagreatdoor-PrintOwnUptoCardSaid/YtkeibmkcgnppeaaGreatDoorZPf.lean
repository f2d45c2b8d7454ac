/- The program s Same against a term of an operation and a name alone. -/
import Derived.Test.YtkeibmkcgnppeaaGreatDoorZPa
import Derived.Test.YtkeibmkcgnppeaaGreatDoorZHa
set_option maxHeartbeats 32000000
namespace Go.Proofs.YtkeibmkcgnppeaaGreatDoor.Sz
open Go Go.Proofs.YtkeibmkcgnppeaaGreatDoor.Rx
set_option maxRecDepth 100000
def ztys : T Ty := ((((((((((((((((((((((T.leaf.set 0 (.int .i64)).set 1 (.flt .f64)).set 2 (.str)).set 3 (.int .i64)).set 4 (.str)).set 5 (.str)).set 6 (.str)).set 7 (.bool)).set 8 (.bool)).set 9 (.int .i64)).set 10 (.int .i64)).set 11 (.bool)).set 12 (.bool)).set 13 (.int .i64)).set 14 (.int .i64)).set 15 (.bool)).set 16 (.bool)).set 17 (.int .i64)).set 19 (.int .i64)).set 20 (.int .i64)).set 21 (.str)).set 22 (.int .u64))
def sx : List AV := [.ex (.sym 0), .ex (.sym 1), .ex (.sym 2), .ex (.sym 3), .ex (.sym 4), .ex (.sym 5), .ex (.sym 6), .ex (.sym 7), .ex (.sym 8), .ex (.sym 9), .ex (.sym 10), .ex (.sym 11), .ex (.sym 12), .ex (.sym 13), .ex (.sym 14), .ex (.sym 15), .ex (.sym 16), .ex (.sym 17), .ex (.sym 18)]
def zy : List AV := [.ex (.sym 20), .lit (.float .f64 0), .lit (.string ⟨#[]⟩), .lit (.int .i64 0), .ex (.sym 21), .lit (.string ⟨#[]⟩), .lit (.string ⟨#[]⟩), .lit (.bool false), .lit (.bool false), .lit (.int .i64 0), .lit (.int .i64 0), .lit (.bool false), .lit (.bool false), .lit (.int .i64 0), .lit (.int .i64 0), .lit (.bool false), .lit (.bool false), .lit (.int .i64 0), .lit (.slice none 0 0)]
def symsFrom : Nat → List AV → Bool
  | k, [] => Nat.beq k 17
  | k, .ex (.sym i) :: r => match Nat.beq i k with
    | true => symsFrom (k + 1) r
    | false => false
  | _, _ => false
def ref0 : List AV := [.lit (.string ⟨#[]⟩), .lit (.string ⟨#[]⟩), .lit (.bool false), .lit (.bool false), .lit (.int .i64 0), .lit (.int .i64 0), .lit (.bool false), .lit (.bool false), .lit (.int .i64 0), .lit (.int .i64 0), .lit (.bool false), .lit (.bool false)]
def isRefs (a b : AV) : Bool := match a with
  | .agg l => match b with
    | .agg m => match symsFrom 5 l with
      | true => sameAll m ref0
      | false => false
    | _ => false
  | _ => false
def zopc (rb : Option Bool) (op : Op) (g : Operand → AV) : Option AV :=
  match op with
  | .binOp o t x y _ => match o with
    | .eql => match Nat.beq t 26 with
      | true => match rb with
        | some b => match isRefs (g x) (g y) with
          | true => some (.lit (.bool b))
          | false => none
        | none => none
      | false => none
    | _ => none
  | .call c => match c.callee with
    | .builtin .len => match c.argTypes.toList with
      | [t] => match c.args.toList with
        | [x] => match g x with
          | .ex (.sym 18) => match Nat.beq t 27 with
            | true => some (.ex (.sym 19))
            | false => none
          | _ => none
        | _ => none
      | _ => none
    | .value f => match f with
      | .func i => match Nat.beq i 87 with
        | true => match c.args.toList with
          | [x] => match g x with
            | .ex (.sym 1) => match Ck.isFn 87 (g (.func 87)) with
              | true => some (.ex (.sym 22))
              | false => none
            | _ => none
          | _ => none
        | false => none
      | _ => none
    | _ => none
  | _ => none
noncomputable def zenv (rb : Option Bool) (sy : Rx.Place) (old : Nat → Option (Option Obj)) (facts : List (Exp × Bool)) : Env := env.plus (fun _ _ => none) (zopc rb) (fun _ _ => none) sy old ztys facts
noncomputable def chkZ (b : Bool) (E : Env) : Bool := Ck.saysB b (ans (eval E 200 (.call (.fn 123) [.agg sx, .agg zy] ⟨32, .leaf⟩)))
def e0 : Exp := .bin .eql (.sym 0) (.sym 20)
def e1 : Exp := .bin .eql (.sym 22) (.lit (.int .u64 0))
def e2 : Exp := .bin .eql (.sym 2) (.lit (.string ⟨#[]⟩))
def e3 : Exp := .bin .eql (.sym 3) (.lit (.int .i64 0))
def e4 : Exp := .bin .eql (.sym 4) (.sym 21)
def e5 : Exp := .bin .eql (.sym 17) (.lit (.int .i64 0))
def eN : List (Exp × Bool) := [(.bin .neq (.sym 19) (.lit (.int .i64 0)), true)]
def eZ : List (Exp × Bool) := [(.bin .neq (.sym 19) (.lit (.int .i64 0)), false), (.bin .lss (.lit (.int .i64 0)) (.sym 19), false)]
section
variable (sy : Rx.Place) (old : Nat → Option (Option Obj))
theorem z0 : chkZ false (zenv none sy old [(e0, false)]) = true := by as_aux_lemma => kernel_rfl
theorem z1 : chkZ false (zenv none sy old [(e0, true), (e1, false)]) = true := by as_aux_lemma => kernel_rfl
theorem z2 : chkZ false (zenv none sy old [(e0, true), (e1, true), (e2, false)]) = true := by as_aux_lemma => kernel_rfl
theorem z3 : chkZ false (zenv none sy old [(e0, true), (e1, true), (e2, true), (e3, false)]) = true := by as_aux_lemma => kernel_rfl
theorem z4 : chkZ false (zenv none sy old [(e0, true), (e1, true), (e2, true), (e3, true), (e4, false)]) = true := by as_aux_lemma => kernel_rfl
theorem zr : chkZ false (zenv (some false) sy old [(e0, true), (e1, true), (e2, true), (e3, true), (e4, true)]) = true := by as_aux_lemma => kernel_rfl
theorem z5 : chkZ false (zenv (some true) sy old [(e0, true), (e1, true), (e2, true), (e3, true), (e4, true), (e5, false)]) = true := by as_aux_lemma => kernel_rfl
theorem zn : chkZ false (zenv (some true) sy old ([(e0, true), (e1, true), (e2, true), (e3, true), (e4, true), (e5, true)] ++ eN)) = true := by as_aux_lemma => kernel_rfl
theorem zt : chkZ true (zenv (some true) sy old ([(e0, true), (e1, true), (e2, true), (e3, true), (e4, true), (e5, true)] ++ eZ)) = true := by as_aux_lemma => kernel_rfl
end
open Go Go.Proofs.YtkeibmkcgnppeaaGreatDoor.Rx
set_option maxRecDepth 100000
theorem hook_bits2 {P : Program} {bt : TypeId} {f : FuncId} (hf : ∀ args w, (callFunc f args).run P w = ((do pure (.value (← extSem bt 1 args))) : Sem Next).run P w) {o : Oper} {c : Call} {x : Operand} (ho : o.op = .call c) (hc : c.callee = .value (.func f)) (hx : c.args.toList = [x])
    {e : Operand → Value} (he : e (.func f) = .func (.func f) #[] #[]) {v : Nat} (hv : e x = .float .f64 v) (w : World) : (execOp e o).run P w = .ok (.value (.int .u64 v)) w := by
  have hx' : c.args = #[x] := Array.ext' (by simpa using hx)
  have hm : (#[x] : Array Operand).map e = #[e x] := by simp
  rw [exec_func ho hc he, hf, hx', hm]
  show ((do pure (.value (← extSem bt 1 #[e x]))) : Sem Next).run P w = _
  rw [hv]
  rfl
def refZ (s : Scal) : Bool := decide (s.rs.toList = []) && decide (s.rt.toList = []) && !s.rf && !s.ra && decide (s.a0 = 0) && decide (s.a1 = 0) && !s.a2 && !s.a3 && decide (s.b0 = 0) && decide (s.b1 = 0) && !s.b2 && !s.b3
def refV (s : Scal) : List Value := [.string s.rs, .string s.rt, .bool s.rf, .bool s.ra, .int .i64 s.a0, .int .i64 s.a1, .bool s.a2, .bool s.a3, .int .i64 s.b0, .int .i64 s.b1, .bool s.b2, .bool s.b3]
def ref0V : List Value := [.string ⟨#[]⟩, .string ⟨#[]⟩, .bool false, .bool false, .int .i64 0, .int .i64 0, .bool false, .bool false, .int .i64 0, .int .i64 0, .bool false, .bool false]
theorem ref_exec (s : Scal) {o : Oper} {ty : TypeId} {x y : Operand} (ho : o.op = .binOp .eql 26 x y ty) {e : Operand → Value} (hx : e x = .agg (refV s).toArray) (hy : e y = .agg ref0V.toArray) (w : World) :
    (execOp e o).run Tryz.prog w = .ok (.value (.bool (refZ s))) w := by
  unfold refV at hx
  unfold ref0V at hy
  unfold execOp
  simp only [ho, hx, hy]
  go_simp
  by_cases h0 : s.rs.toList = []
  rotate_left
  · rw [if_neg h0]; simp [refZ, h0]
  rw [if_pos h0]
  by_cases h1 : s.rt.toList = []
  rotate_left
  · rw [if_neg h1]; simp [refZ, h1]
  rw [if_pos h1]
  by_cases h2 : s.rf = true
  · rw [if_pos h2]; simp [refZ, h2]
  rw [if_neg h2]
  by_cases h3 : s.ra = true
  · rw [if_pos h3]; simp [refZ, h3]
  rw [if_neg h3]
  by_cases h4 : s.a0 = 0
  rotate_left
  · rw [if_neg h4]; simp [refZ, h4]
  rw [if_pos h4]
  by_cases h5 : s.a1 = 0
  rotate_left
  · rw [if_neg h5]; simp [refZ, h5]
  rw [if_pos h5]
  by_cases h6 : s.a2 = true
  · rw [if_pos h6]; simp [refZ, h6]
  rw [if_neg h6]
  by_cases h7 : s.a3 = true
  · rw [if_pos h7]; simp [refZ, h7]
  rw [if_neg h7]
  by_cases h8 : s.b0 = 0
  rotate_left
  · rw [if_neg h8]; simp [refZ, h8]
  rw [if_pos h8]
  by_cases h9 : s.b1 = 0
  rotate_left
  · rw [if_neg h9]; simp [refZ, h9]
  rw [if_pos h9]
  by_cases h10 : s.b2 = true
  · rw [if_pos h10]; simp [refZ, h10]
  rw [if_neg h10]
  by_cases h11 : s.b3 = true
  · rw [if_pos h11]; simp [refZ, h11]
  rw [if_neg h11]
  simp [refZ, *]
theorem symsFrom_ok : ∀ {k : Nat} {l : List AV}, symsFrom k l = true → k + l.length = 17 ∧ l = (List.range' k l.length).map fun i => .ex (.sym i)
  | k, [], h => by
    unfold symsFrom at h
    have := Nat.eq_of_beq_eq_true h
    exact ⟨by simpa using this, rfl⟩
  | k, a :: r, h => by
    unfold symsFrom at h
    split at h
    · rename_i h0; cases h0
    · rename_i i r' h0
      simp only [List.cons.injEq] at h0
      obtain ⟨rfl, rfl⟩ := h0
      split at h
      · rename_i hb
        have hb := Nat.eq_of_beq_eq_true hb
        subst hb
        obtain ⟨h1, h2⟩ := symsFrom_ok h
        refine ⟨by simp only [List.length_cons]; omega, ?_⟩
        rw [List.length_cons, List.range'_succ, List.map_cons, ← h2]
      · cases h
    · cases h
def zvals (s : Scal) (p : Option Addr) (n m : Nat) (k : Int) (nm : ByteArray) : List Value := s.row (.slice p n m) ++ [.int .i64 n, .int .i64 k, .string nm, .int .u64 s.num]
theorem ztys_ok {b : Nat} {s : Scal} {p : Option Addr} {n m : Nat} {k : Int} {nm : ByteArray} : ∀ i t, ztys.get i = some t → ∃ lc, symTab b (zvals s p n m k nm) i = some lc ∧ hasTy lc.val t = true := by
  intro i t h
  have key : ∀ (j : Nat) (u : Ty), ztys.get j = some u → j < 23 := by
    intro j u hu
    rcases Nat.lt_or_ge j 23 with hj | hj
    · exact hj
    · exfalso
      simp [ztys, T.get_set, show ¬ j = 0 by omega, show ¬ j = 1 by omega, show ¬ j = 2 by omega, show ¬ j = 3 by omega, show ¬ j = 4 by omega, show ¬ j = 5 by omega, show ¬ j = 6 by omega, show ¬ j = 7 by omega, show ¬ j = 8 by omega, show ¬ j = 9 by omega, show ¬ j = 10 by omega, show ¬ j = 11 by omega, show ¬ j = 12 by omega, show ¬ j = 13 by omega, show ¬ j = 14 by omega, show ¬ j = 15 by omega, show ¬ j = 16 by omega, show ¬ j = 17 by omega, show ¬ j = 19 by omega, show ¬ j = 20 by omega, show ¬ j = 21 by omega, show ¬ j = 22 by omega] at hu
  have hlt := key i t h
  match i, h, hlt with
  | 0, h, _ | 1, h, _ | 2, h, _ | 3, h, _ | 4, h, _ | 5, h, _ | 6, h, _ | 7, h, _ | 8, h, _ | 9, h, _ | 10, h, _ | 11, h, _ | 12, h, _ | 13, h, _ | 14, h, _ | 15, h, _ | 16, h, _ | 17, h, _ | 19, h, _ | 20, h, _ | 21, h, _ | 22, h, _ =>
    cases h
    exact ⟨_, rfl, rfl⟩
  | 18, h, _ => cases h
  | j + 23, _, hlt => omega
theorem isRefs_ok {a b : AV} (h : isRefs a b = true) : ∃ l, a = .agg l ∧ symsFrom 5 l = true ∧ b = .agg ref0 := by
  unfold isRefs at h
  split at h
  · rename_i l
    split at h
    · rename_i m
      split at h
      · rename_i h1
        exact ⟨l, rfl, h1, by rw [sameAll_ok h]⟩
      · cases h
    · cases h
  · cases h
theorem zenv_ok {W : World} {B : Nat} {s : Scal} {p : Option Addr} {n m : Nat} {k : Int} {nm : ByteArray} {rb : Option Bool} {facts : List (Exp × Bool)} (hrb : ∀ b, rb = some b → refZ s = b)
    (hf : ∀ f ∈ facts, f.1.ev (symTab B (zvals s p n m k nm)) = some (.bool f.2)) : (zenv rb (symTab B (zvals s p n m k nm)) (oldOf W) facts).OK := by
  refine env_ok.plus (fun _ _ _ h => by cases h) ?_ (fun _ _ _ h => by cases h) ztys_ok hf
  intro op gg v hv base ρ w e hst hle hx o ho
  have val : ∀ {k' : Nat} {u : Value} {x : Operand}, gg x = .ex (.sym k') → (zvals s p n m k nm)[k']? = some u → e x = u := fun {k' u x} hgx hk => Ck.ex_val hle hk (by rw [← hgx]; exact hx x)
  cases op with
  | call c =>
    simp only [zopc] at hv
    split at hv
    · rename_i hcal
      split at hv
      · rename_i t ht
        split at hv
        · rename_i x hargs
          split at hv
          · rename_i hgx
            split at hv
            · rename_i hb
              have hb := Nat.eq_of_beq_eq_true hb
              subst hb
              simp only [Option.some.injEq] at hv
              subst hv
              have hex := val (u := .slice p n m) hgx rfl
              exact ⟨.int .i64 n, hook_len ho hcal ht hargs Tryz.underlying27 hex w, Ck.ex_VR hle (k := 19) rfl rfl⟩
            · cases hv
          · cases hv
        · cases hv
      · cases hv
    · rename_i f hcal
      split at hv
      · rename_i i
        split at hv
        · rename_i hb
          have hb := Nat.eq_of_beq_eq_true hb
          subst hb
          split at hv
          · rename_i x hargs
            split at hv
            · rename_i hgx
              split at hv
              · rename_i hfn
                simp only [Option.some.injEq] at hv
                subst hv
                have hex := val (u := .float .f64 s.num) hgx rfl
                exact ⟨.int .u64 s.num, hook_bits2 (env_ok.ext 87 1 (by kernel_rfl)) ho hcal hargs (Ck.isFn_ok hfn (hx (.func 87))) hex w, Ck.ex_VR hle (k := 22) rfl rfl⟩
              · cases hv
            · cases hv
          · cases hv
        · cases hv
      · cases hv
    · cases hv
  | binOp q t x y ty =>
    simp only [zopc] at hv
    split at hv
    · split at hv
      · rename_i hb
        have hb := Nat.eq_of_beq_eq_true hb
        subst hb
        split at hv
        · rename_i b
          split at hv
          · rename_i hr
            simp only [Option.some.injEq] at hv
            subst hv
            obtain ⟨l, h1, h2, h3⟩ := isRefs_ok hr
            obtain ⟨h4, h5⟩ := symsFrom_ok h2
            have h6 : l.length = 12 := by omega
            rw [h6] at h5
            have hxx := hx x
            have hyy := hx y
            rw [h1, h5] at hxx
            rw [h3] at hyy
            have ex : e x = .agg (refV s).toArray := by
              simp only [VR] at hxx
              obtain ⟨cs, he, hl⟩ := hxx
              simp only [List.range', List.map, VRs] at hl
              obtain ⟨x0, r0, q0, g0, x1, r1, q1, g1, x2, r2, q2, g2, x3, r3, q3, g3, x4, r4, q4, g4, x5, r5, q5, g5, x6, r6, q6, g6, x7, r7, q7, g7, x8, r8, q8, g8, x9, r9, q9, g9, x10, r10, q10, g10, x11, r11, q11, g11, hcs⟩ := hl
              have hcs' : cs.toList = refV s := by
                rw [q0, q1, Ck.ex_val hle (k := 6) (v := .string s.rt) rfl g1, q2, Ck.ex_val hle (k := 7) (v := .bool s.rf) rfl g2, q3, Ck.ex_val hle (k := 8) (v := .bool s.ra) rfl g3, q4, Ck.ex_val hle (k := 9) (v := .int .i64 s.a0) rfl g4, q5, Ck.ex_val hle (k := 10) (v := .int .i64 s.a1) rfl g5, q6, Ck.ex_val hle (k := 11) (v := .bool s.a2) rfl g6, q7, Ck.ex_val hle (k := 12) (v := .bool s.a3) rfl g7, q8, Ck.ex_val hle (k := 13) (v := .int .i64 s.b0) rfl g8, q9, Ck.ex_val hle (k := 14) (v := .int .i64 s.b1) rfl g9, q10, Ck.ex_val hle (k := 15) (v := .bool s.b2) rfl g10, q11, Ck.ex_val hle (k := 16) (v := .bool s.b3) rfl g11, hcs, Ck.ex_val hle (k := 5) (v := .string s.rs) rfl g0]
                rfl
              rw [he]
              exact congrArg Value.agg (Array.ext' hcs')
            have ey : e y = .agg ref0V.toArray := by
              simp only [VR, ref0] at hyy
              obtain ⟨cs, he, hl⟩ := hyy
              simp only [VRs, VR] at hl
              obtain ⟨y0, r0, q0, g0, y1, r1, q1, g1, y2, r2, q2, g2, y3, r3, q3, g3, y4, r4, q4, g4, y5, r5, q5, g5, y6, r6, q6, g6, y7, r7, q7, g7, y8, r8, q8, g8, y9, r9, q9, g9, y10, r10, q10, g10, y11, r11, q11, g11, hcs⟩ := hl
              have hcs' : cs.toList = ref0V := by
                rw [q0, q1, g1, q2, g2, q3, g3, q4, g4, q5, g5, q6, g6, q7, g7, q8, g8, q9, g9, q10, g10, q11, g11, hcs, g0]
                rfl
              rw [he]
              exact congrArg Value.agg (Array.ext' hcs')
            refine ⟨.bool b, ?_, by simp only [VR]⟩
            rw [← hrb b rfl]
            exact ref_exec s ho ex ey w
          · cases hv
        · cases hv
      · cases hv
    · cases hv
  | _ => cases hv
open Go Go.Proofs.YtkeibmkcgnppeaaGreatDoor.Rx
open Go.Proofs.YtkeibmkcgnppeaaGreatDoor.Ru (facts_cons facts_nil)
set_option maxRecDepth 100000
def bareS (k : Int) (nm : ByteArray) : Scal := ⟨k, 0, ⟨#[]⟩, 0, nm, ⟨#[]⟩, ⟨#[]⟩, false, false, 0, 0, false, false, 0, 0, false, false, 0⟩
def sameB (s : Scal) (n : Nat) (k : Int) (nm : ByteArray) : Bool := decide (s.op = k) && decide (s.num = 0) && decide (s.tx = ⟨#[]⟩) && decide (s.er = 0) && decide (s.nm = nm) && refZ s && decide (s.rw = 0) && decide (n = 0)
theorem int_ev (k : IntKind) (a b : Int) : evBin .eql (.int k a) (.int k b) = some (.bool (decide (a = b))) := by
  simp [evBin, Go.binOp, Op.intCmp, pure0, pure]
  rw [Bool.eq_iff_iff]
  simp
theorem str_ev (a b : ByteArray) : evBin .eql (.string a) (.string b) = some (.bool (decide (a = b))) := by
  simp [evBin, Go.binOp, Op.stringOp, pure0, pure]
  rw [Bool.eq_iff_iff]
  simp only [beq_iff_eq, decide_eq_true_eq, ByteArray.toList_eq]
  exact ⟨fun h => ByteArray.ext (Array.toList_inj.1 h), fun h => by rw [h]⟩
theorem same123 {W : World} (hg : Consts W) (s : Scal) (p : Option Addr) (n m : Nat) (k : Int) (nm : ByteArray) (w : World) (hw : Ck.Later W w) :
    Calls Tryz.prog 123 #[.agg (s.row (.slice p n m)).toArray, .agg ((bareS k nm).row (.slice none 0 0)).toArray] w fun e w' => e = .returned (.bool (sameB s n k nm)) ∧ RowKit.Below w.heap.size w w' := by
  have hx : VRs (symTab W.heap.size (zvals s p n m k nm)) sx (s.row (.slice p n m)) := by
    simp only [sx, Scal.row, VRs]
    exact ⟨_, _, rfl, Ck.ex_VR (.refl _) (k := 0) rfl rfl, _, _, rfl, Ck.ex_VR (.refl _) (k := 1) rfl rfl, _, _, rfl, Ck.ex_VR (.refl _) (k := 2) rfl rfl, _, _, rfl, Ck.ex_VR (.refl _) (k := 3) rfl rfl, _, _, rfl, Ck.ex_VR (.refl _) (k := 4) rfl rfl, _, _, rfl, Ck.ex_VR (.refl _) (k := 5) rfl rfl, _, _, rfl, Ck.ex_VR (.refl _) (k := 6) rfl rfl, _, _, rfl, Ck.ex_VR (.refl _) (k := 7) rfl rfl, _, _, rfl, Ck.ex_VR (.refl _) (k := 8) rfl rfl, _, _, rfl, Ck.ex_VR (.refl _) (k := 9) rfl rfl, _, _, rfl, Ck.ex_VR (.refl _) (k := 10) rfl rfl, _, _, rfl, Ck.ex_VR (.refl _) (k := 11) rfl rfl, _, _, rfl, Ck.ex_VR (.refl _) (k := 12) rfl rfl, _, _, rfl, Ck.ex_VR (.refl _) (k := 13) rfl rfl, _, _, rfl, Ck.ex_VR (.refl _) (k := 14) rfl rfl, _, _, rfl, Ck.ex_VR (.refl _) (k := 15) rfl rfl, _, _, rfl, Ck.ex_VR (.refl _) (k := 16) rfl rfl, _, _, rfl, Ck.ex_VR (.refl _) (k := 17) rfl rfl, _, _, rfl, Ck.ex_VR (.refl _) (k := 18) rfl rfl, rfl⟩
  have hy : VRs (symTab W.heap.size (zvals s p n m k nm)) zy ((bareS k nm).row (.slice none 0 0)) := by
    simp only [zy, bareS, Scal.row, VRs]
    exact ⟨_, _, rfl, Ck.ex_VR (.refl _) (k := 20) rfl rfl, _, _, rfl, (by simp only [VR]), _, _, rfl, (by simp only [VR]), _, _, rfl, (by simp only [VR]), _, _, rfl, Ck.ex_VR (.refl _) (k := 21) rfl rfl, _, _, rfl, (by simp only [VR]), _, _, rfl, (by simp only [VR]), _, _, rfl, (by simp only [VR]), _, _, rfl, (by simp only [VR]), _, _, rfl, (by simp only [VR]), _, _, rfl, (by simp only [VR]), _, _, rfl, (by simp only [VR]), _, _, rfl, (by simp only [VR]), _, _, rfl, (by simp only [VR]), _, _, rfl, (by simp only [VR]), _, _, rfl, (by simp only [VR]), _, _, rfl, (by simp only [VR]), _, _, rfl, (by simp only [VR]), _, _, rfl, (by simp only [VR]), rfl⟩
  have hv : VRs (symTab W.heap.size (zvals s p n m k nm)) [.agg sx, .agg zy] [.agg (s.row (.slice p n m)).toArray, .agg ((bareS k nm).row (.slice none 0 0)).toArray] := by
    simp only [VRs, VR]
    exact ⟨_, _, rfl, ⟨_, rfl, hx⟩, _, _, rfl, ⟨_, rfl, hy⟩, rfl⟩
  have fin : ∀ {b : Bool} {facts : List (Exp × Bool)} (rb : Option Bool) (_ : ∀ b, rb = some b → refZ s = b) (_ : ∀ f ∈ facts, f.1.ev (symTab W.heap.size (zvals s p n m k nm)) = some (.bool f.2))
      (_ : ∀ sy old, chkZ b (zenv rb sy old facts) = true) (_ : sameB s n k nm = b),
      Calls Tryz.prog 123 #[.agg (s.row (.slice p n m)).toArray, .agg ((bareS k nm).row (.slice none 0 0)).toArray] w fun e w' => e = .returned (.bool (sameB s n k nm)) ∧ RowKit.Below w.heap.size w w' := by
    intro b facts rb h1 h2 h3 h4
    rw [h4]
    have st : (zenv rb (symTab W.heap.size (zvals s p n m k nm)) (oldOf W) facts).Still W.heap.size w :=
      hw.still hg (con := fun _ _ => none) (opc := fun _ _ => none) (opn := fun _ _ => none) (sy := symTab W.heap.size (zvals s p n m k nm)) (tys := ztys) (facts := facts)
    exact sym_call (zenv_ok h1 h2) (Ck.saysB_ok (h3 _ _)) w rfl hw.1 (show 23 ≤ 32 by decide) st hv
  have E0 (r : Bool) (hr : decide (s.op = k) = r) : (e0).ev (symTab W.heap.size (zvals s p n m k nm)) = some (.bool r) := by
    rw [← hr]
    exact int_ev .i64 s.op k
  have E0_t (h : s.op = k) := E0 true (decide_eq_true h)
  have E0_f (h : ¬ s.op = k) := E0 false (decide_eq_false h)
  have E1 (r : Bool) (hr : decide (s.num = 0) = r) : (e1).ev (symTab W.heap.size (zvals s p n m k nm)) = some (.bool r) := by
    rw [← hr]
    have e : decide (s.num = 0) = decide ((s.num : Int) = 0) := by rw [Bool.eq_iff_iff]; simp
    rw [e]
    exact int_ev .u64 s.num 0
  have E1_t (h : s.num = 0) := E1 true (decide_eq_true h)
  have E1_f (h : ¬ s.num = 0) := E1 false (decide_eq_false h)
  have E2 (r : Bool) (hr : decide (s.tx = ⟨#[]⟩) = r) : (e2).ev (symTab W.heap.size (zvals s p n m k nm)) = some (.bool r) := by
    rw [← hr]
    exact str_ev s.tx ⟨#[]⟩
  have E2_t (h : s.tx = ⟨#[]⟩) := E2 true (decide_eq_true h)
  have E2_f (h : ¬ s.tx = ⟨#[]⟩) := E2 false (decide_eq_false h)
  have E3 (r : Bool) (hr : decide (s.er = 0) = r) : (e3).ev (symTab W.heap.size (zvals s p n m k nm)) = some (.bool r) := by
    rw [← hr]
    exact int_ev .i64 s.er 0
  have E3_t (h : s.er = 0) := E3 true (decide_eq_true h)
  have E3_f (h : ¬ s.er = 0) := E3 false (decide_eq_false h)
  have E4 (r : Bool) (hr : decide (s.nm = nm) = r) : (e4).ev (symTab W.heap.size (zvals s p n m k nm)) = some (.bool r) := by
    rw [← hr]
    exact str_ev s.nm nm
  have E4_t (h : s.nm = nm) := E4 true (decide_eq_true h)
  have E4_f (h : ¬ s.nm = nm) := E4 false (decide_eq_false h)
  have E5 (r : Bool) (hr : decide (s.rw = 0) = r) : (e5).ev (symTab W.heap.size (zvals s p n m k nm)) = some (.bool r) := by
    rw [← hr]
    exact int_ev .i64 s.rw 0
  have E5_t (h : s.rw = 0) := E5 true (decide_eq_true h)
  have E5_f (h : ¬ s.rw = 0) := E5 false (decide_eq_false h)
  have EN_t (h : n = 0) : (Exp.bin .neq (.sym 19) (.lit (.int .i64 0))).ev (symTab W.heap.size (zvals s p n m k nm)) = some (.bool false) := by
    show evBin .neq (.int .i64 n) (.int .i64 0) = _
    subst h
    rfl
  have EN_f (h : ¬ n = 0) : (Exp.bin .neq (.sym 19) (.lit (.int .i64 0))).ev (symTab W.heap.size (zvals s p n m k nm)) = some (.bool true) := by
    show evBin .neq (.int .i64 n) (.int .i64 0) = _
    simp [evBin, Go.binOp, Op.intCmp, pure0, pure, h]
  have EL_t (h : n = 0) : (Exp.bin .lss (.lit (.int .i64 0)) (.sym 19)).ev (symTab W.heap.size (zvals s p n m k nm)) = some (.bool false) := by
    show evBin .lss (.int .i64 0) (.int .i64 n) = _
    subst h
    rfl
  by_cases h0 : s.op = k
  rotate_left
  · exact fin none (fun b h => by cases h) (facts_cons (E0_f h0) facts_nil) z0 (by simp [sameB, h0])
  by_cases h1 : s.num = 0
  rotate_left
  · exact fin none (fun b h => by cases h) (facts_cons (E0_t h0) <| facts_cons (E1_f h1) facts_nil) z1 (by simp [sameB, h1])
  by_cases h2 : s.tx = ⟨#[]⟩
  rotate_left
  · exact fin none (fun b h => by cases h) (facts_cons (E0_t h0) <| facts_cons (E1_t h1) <| facts_cons (E2_f h2) facts_nil) z2 (by simp [sameB, h2])
  by_cases h3 : s.er = 0
  rotate_left
  · exact fin none (fun b h => by cases h) (facts_cons (E0_t h0) <| facts_cons (E1_t h1) <| facts_cons (E2_t h2) <| facts_cons (E3_f h3) facts_nil) z3 (by simp [sameB, h3])
  by_cases h4 : s.nm = nm
  rotate_left
  · exact fin none (fun b h => by cases h) (facts_cons (E0_t h0) <| facts_cons (E1_t h1) <| facts_cons (E2_t h2) <| facts_cons (E3_t h3) <| facts_cons (E4_f h4) facts_nil) z4 (by simp [sameB, h4])
  cases h6 : refZ s
  · exact fin (some false) (fun b h => by cases h; exact h6) (facts_cons (E0_t h0) <| facts_cons (E1_t h1) <| facts_cons (E2_t h2) <| facts_cons (E3_t h3) <| facts_cons (E4_t h4) <| facts_nil) zr (by simp [sameB, h6])
  by_cases h5 : s.rw = 0
  rotate_left
  · exact fin (some true) (fun b h => by cases h; exact h6) (facts_cons (E0_t h0) <| facts_cons (E1_t h1) <| facts_cons (E2_t h2) <| facts_cons (E3_t h3) <| facts_cons (E4_t h4) <| facts_cons (E5_f h5) facts_nil) z5 (by simp [sameB, h5])
  by_cases h7 : n = 0
  · exact fin (some true) (fun b h => by cases h; exact h6) (facts_cons (E0_t h0) <| facts_cons (E1_t h1) <| facts_cons (E2_t h2) <| facts_cons (E3_t h3) <| facts_cons (E4_t h4) <| facts_cons (E5_t h5) <| facts_cons (EN_t h7) <| facts_cons (EL_t h7) facts_nil) zt (by simp [sameB, h0, h1, h2, h3, h4, h5, h6, h7])
  · exact fin (some true) (fun b h => by cases h; exact h6) (facts_cons (E0_t h0) <| facts_cons (E1_t h1) <| facts_cons (E2_t h2) <| facts_cons (E3_t h3) <| facts_cons (E4_t h4) <| facts_cons (E5_t h5) <| facts_cons (EN_f h7) facts_nil) zn (by simp [sameB, h7])
end Go.Proofs.YtkeibmkcgnppeaaGreatDoor.Sz

/- Both tests of a format answer alike. -/
import Derived.Test.YtkeibmkcgnppeaaGreatDoorZCb
import Derived.ProofKit
import Derived.Lib.SmallJoins
import Derived.Laws.Cover2
import Derived.Deep.Slices
import Derived.Lib.Agree
namespace Go.Proofs.YtkeibmkcgnppeaaGreatDoor.Ck
open Go Go.Proofs.YtkeibmkcgnppeaaGreatDoor.Rx
set_option maxRecDepth 100000
structure Sy where
  k : Int := 0
  p : Value := .bool false
  q : Value := .bool false
  wh : Bool := false
  n : Int := 0
  i : Int := 0
  c : Int := 0
  m : Int := 0
  e1 : Value := .bool false
  kd : Int := 0
  tx : ByteArray := ⟨#[]⟩
  mn : Int := 0
  pl : Int := 0
  ex : Int := 0
  gr : Bool := false
  lo : Bool := false
  e2 : Value := .bool false
  op : Int := 0
  vl : Nat := 0
  ap : Int := 0
def Sy.vals (S : Sy) : List Value :=
  [.int .i64 S.k, S.p, S.q, .bool S.wh, .int .i64 S.n, .int .i64 S.i, .int .i64 S.c, .int .i64 S.m, S.e1, .int .i64 S.kd, .string S.tx, .int .i64 S.mn, .int .i64 S.pl, .int .i64 S.ex, .bool S.gr, .bool S.lo, S.e2, .int .i64 S.op, .float .f64 S.vl, .int .i64 S.ap]
def Sy.piece (S : Sy) : List Value := [.int .i64 S.kd, .string S.tx, .int .i64 S.mn, .int .i64 S.pl, .int .i64 S.ex, .bool S.gr, .bool S.lo]
def Sy.map (S : Sy) : List Value := [.int .i64 S.op, .float .f64 S.vl, .int .i64 S.ap]
theorem stys_ok {b : Nat} {S : Sy} : ∀ i t, stys.get i = some t → ∃ lc, symTab b S.vals i = some lc ∧ hasTy lc.val t = true := by
  intro i t h
  have key : ∀ (j : Nat) (u : Ty), stys.get j = some u → j < 20 := by
    intro j u hu
    rcases Nat.lt_or_ge j 20 with hj | hj
    · exact hj
    · exfalso
      simp [stys, T.get_set, show ¬ j = 19 by omega, show ¬ j = 18 by omega, show ¬ j = 17 by omega, show ¬ j = 15 by omega, show ¬ j = 14 by omega, show ¬ j = 13 by omega, show ¬ j = 12 by omega, show ¬ j = 11 by omega, show ¬ j = 10 by omega, show ¬ j = 9 by omega, show ¬ j = 7 by omega, show ¬ j = 6 by omega, show ¬ j = 5 by omega, show ¬ j = 4 by omega, show ¬ j = 3 by omega, show ¬ j = 0 by omega] at hu
  have hlt := key i t h
  match i, h, hlt with
  | 0, h, _ | 3, h, _ | 4, h, _ | 5, h, _ | 6, h, _ | 7, h, _ | 9, h, _ | 10, h, _ | 11, h, _ | 12, h, _ | 13, h, _ | 14, h, _ | 15, h, _ | 17, h, _ | 18, h, _ | 19, h, _ =>
    cases h
    exact ⟨_, rfl, rfl⟩
  | 1, h, _ | 2, h, _ | 8, h, _ | 16, h, _ => cases h
  | j + 20, _, hlt => omega
def SlOK (v : Value) (n : Int) : Prop := ∃ (a : Option Addr) (len cap : Nat), v = .slice a len cap ∧ n = len
def ElOK (W : World) (v : Value) (i : Int) (e : Value) (sz : Nat) (cs : List Value) : Prop :=
  ∃ (b off len cap j : Nat), v = .slice (some ⟨b, off, none⟩) len cap ∧ i = j ∧ j < len ∧ e = .pointer (some ⟨b, off + j * sz, none⟩) ∧ b < W.heap.size ∧ W.rangeAt b (off + j * sz) cs
def Says (W : World) (f : FuncId) (args : Array Value) (r : Bool) : Prop :=
  ∀ w, Later W w → Calls Tryz.prog f args w (fun e w' => e = .returned (.bool r) ∧ RowKit.Below w.heap.size w w')
def ClOK (W : World) (vl : Nat) : Cl → Prop
  | .off => True
  | .nan => (∀ y, FloatKind.f64.format.order vl y = none) ∧ FloatKind.f64.format.sub vl vl = none ∧ Says W 42 #[.float .f64 vl] true
  | .fin => FloatKind.f64.format.sub vl vl = some 0 ∧ Says W 42 #[.float .f64 vl] false ∧ Says W 43 #[.float .f64 vl, .int .i64 0] false
  | .lit b => vl = b
theorem ex_val {ρ : Rx.Place} {b : Nat} {l : List Value} (hle : (symTab b l).le ρ) {k : Nat} {v x : Value} (hk : l[k]? = some v) (h : VR ρ (.ex (.sym k)) x) : x = v := by
  simp only [VR] at h
  have h1 : (Exp.sym k).ev (symTab b l) = some v := by
    simp only [Exp.ev, symTab, hk]
  have h2 := Exp.ev_mono hle h1
  rw [h.1, Option.some.injEq] at h2
  exact h2
theorem ex_VR {ρ : Rx.Place} {b : Nat} {l : List Value} (hle : (symTab b l).le ρ) {k : Nat} {v : Value} (hk : l[k]? = some v) (h1 : v.oneCell' = true) : VR ρ (.ex (.sym k)) v := by
  simp only [VR]
  refine ⟨Exp.ev_mono hle ?_, h1⟩
  simp only [Exp.ev, symTab, hk]
theorem sPiece_VR {ρ : Rx.Place} {b : Nat} {S : Sy} (hle : (symTab b S.vals).le ρ) : VRs ρ sPiece S.piece := by
  simp only [sPiece, Sy.piece, VRs]
  exact ⟨_, _, rfl, ex_VR hle (k := 9) rfl rfl, _, _, rfl, ex_VR hle (k := 10) rfl rfl, _, _, rfl, ex_VR hle (k := 11) rfl rfl, _, _, rfl, ex_VR hle (k := 12) rfl rfl, _, _, rfl, ex_VR hle (k := 13) rfl rfl,
    _, _, rfl, ex_VR hle (k := 14) rfl rfl, _, _, rfl, ex_VR hle (k := 15) rfl rfl, rfl⟩
theorem VRs_det {ρ : Rx.Place} : ∀ {k0 : Nat} {b : Nat} {l : List Value} (_ : (symTab b l).le ρ) (n : Nat) {xs : List Value}, (∀ i, i < n → ∃ v, l[k0 + i]? = some v) → VRs ρ ((List.range' k0 n).map fun k => .ex (.sym k)) xs → xs = (l.drop k0).take n
  | k0, b, l, hle, 0, xs, _, h => by
    simp only [List.range'_zero, List.map_nil, VRs] at h
    simp [h]
  | k0, b, l, hle, n + 1, xs, hv, h => by
    simp only [List.range'_succ, List.map_cons, VRs] at h
    obtain ⟨x, ys, rfl, h1, h2⟩ := h
    obtain ⟨v, hk⟩ := hv 0 (by omega)
    rw [Nat.add_zero] at hk
    have hx := ex_val hle hk h1
    have hys := VRs_det (k0 := k0 + 1) hle n (fun i hi => by have := hv (i + 1) (by omega); rwa [show k0 + (i + 1) = k0 + 1 + i by omega] at this) h2
    have hlt : k0 < l.length := by
      rcases Nat.lt_or_ge k0 l.length with h | h
      · exact h
      · rw [List.getElem?_eq_none h] at hk; cases hk
    rw [hx, hys, List.drop_eq_getElem_cons hlt, List.take_succ_cons]
    rw [List.getElem?_eq_getElem hlt, Option.some.injEq] at hk
    rw [hk]
theorem Later.range {W w : World} (h : Later W w) {b off : Nat} {cs : List Value} (hb : b < W.heap.size) (hr : W.rangeAt b off cs) : w.rangeAt b off cs := by
  intro j v hj
  have := hr j v hj
  simp only [World.cell?] at this ⊢
  rw [h.2 b hb]
  exact this
theorem info80 : ∃ inf, Tryz.prog.info? 67 = some inf ∧ inf.size = 7 := by
  have : (Tryz.prog.info? 67).map (·.size) = some 7 := by kernel_rfl
  obtain ⟨inf, h1, h2⟩ := Option.map_eq_some_iff.1 this
  exact ⟨inf, h1, h2⟩
theorem info84 : ∃ inf, Tryz.prog.info? 71 = some inf ∧ inf.size = 3 := by
  have : (Tryz.prog.info? 71).map (·.size) = some 3 := by kernel_rfl
  obtain ⟨inf, h1, h2⟩ := Option.map_eq_some_iff.1 this
  exact ⟨inf, h1, h2⟩
theorem range_later {W w : World} (h : ∀ k, k < W.heap.size → w.heap[k]? = W.heap[k]?) {b off : Nat} {cs : List Value} (hb : b < W.heap.size) (hr : W.rangeAt b off cs) : w.rangeAt b off cs := by
  intro j v hj
  have := hr j v hj
  simp only [World.cell?] at this ⊢
  rw [h b hb]
  exact this
theorem sMap_VR {ρ : Rx.Place} {b : Nat} {W : World} {S : Sy} {cl : Cl} (hle : (symTab b S.vals).le ρ) (hcl : ClOK W S.vl cl) : VRs ρ (sMap cl) S.map := by
  simp only [sMap, Sy.map, VRs]
  refine ⟨_, _, rfl, ex_VR hle (k := 17) rfl rfl, _, _, rfl, ?_, _, _, rfl, ex_VR hle (k := 19) rfl rfl, rfl⟩
  cases cl with
  | lit b => simp only [Cl.cell, VR]; rw [show S.vl = b from hcl]
  | _ => exact ex_VR hle (k := 18) rfl rfl
theorem senv_ok {W : World} {B : Nat} {S : Sy} {g r : Option Bool} {in1 in2 : Bool} {cl : Cl} {facts : List (Exp × Bool)}
    (h37 : ∀ b, g = some b → Both W 40 49 #[.int .i64 S.k, .int .i64 S.kd] b)
    (h38 : ∀ b, r = some b → Both W 41 50 #[prow S.kd S.mn S.pl S.ex S.tx S.gr S.lo] b)
    (hn : SlOK S.p S.n) (hm : SlOK S.q S.m)
    (h1 : in1 = true → ElOK W S.p S.i S.e1 7 S.piece) (h2 : in2 = true → ElOK W S.q S.i S.e2 3 S.map)
    (hcl : ClOK W S.vl cl) (hf : ∀ f ∈ facts, f.1.ev (symTab B S.vals) = some (.bool f.2)) :
    (senv g r in1 in2 cl (symTab B S.vals) (oldOf W) facts).OK := by
  have hbase : ∀ {base : Nat} {w : World} {con : FuncId → List AV → Option AV} {opc opn : Op → (Operand → AV) → Option AV}, base ≤ w.heap.size → (env.plus con opc opn (symTab B S.vals) (oldOf W) stys facts).Still base w → Later W w := by
    intro base w con opc opn hb hst
    refine ⟨?_, still_later hst⟩
    rcases Nat.eq_zero_or_pos W.heap.size with h0 | h0
    · omega
    · have hk : Nat.blt (W.heap.size - 1) W.heap.size = true := by simpa [Nat.blt_eq] using (by omega : W.heap.size - 1 < W.heap.size)
      have := (hst.2 (W.heap.size - 1) W.heap[W.heap.size - 1]? (by show oldOf W _ = _; simp [oldOf, hk])).1
      omega
  refine env_ok.plus ?_ ?_ ?_ stys_ok hf
  · intro f args v hv base ρ w vals hst hle hb ha
    have hL := hbase hb hst
    have fin : ∀ {c : Bool} {x : Array Value}, vals.toArray = x → Calls Tryz.prog f x w (fun e w' => e = .returned (.bool c) ∧ RowKit.Below w.heap.size w w') → v = .lit (.bool c) →
        Calls env.P f vals.toArray w fun e w' => ∃ x, e = .returned x ∧ VR ρ v x ∧ RowKit.Below w.heap.size w w' := by
      rintro c x rfl hcall rfl
      refine Calls.mono hcall fun e w' he => ?_
      obtain ⟨rfl, hbel⟩ := he
      exact ⟨_, rfl, by simp only [VR], hbel⟩
    unfold scon at hv
    split at hv
    · split at hv
      · rename_i hff
        split at hv
        · rename_i b
          simp only [Option.some.injEq] at hv
          simp only [VRs] at ha
          obtain ⟨x, _, rfl, hx, y, _, rfl, hy, rfl⟩ := ha
          have hx := ex_val hle (k := 0) (v := .int .i64 S.k) rfl hx
          have hy := ex_val hle (k := 9) (v := .int .i64 S.kd) rfl hy
          subst hx hy
          have hB := h37 b rfl w hL
          simp only [Bool.or_eq_true] at hff
          rcases hff with hff | hff
          · have := Nat.eq_of_beq_eq_true hff; subst this
            exact fin rfl hB.1 hv.symm
          · have := Nat.eq_of_beq_eq_true hff; subst this
            exact fin rfl hB.2 hv.symm
        · cases hv
      · cases hv
    · rename_i l
      split at hv
      · rename_i hff
        split at hv
        · rename_i hsa
          have hl := sameAll_ok hsa
          subst hl
          split at hv
          · rename_i b
            simp only [Option.some.injEq] at hv
            simp only [VRs] at ha
            obtain ⟨x, _, rfl, hx, rfl⟩ := ha
            simp only [VR] at hx
            obtain ⟨cs, rfl, hx⟩ := hx
            have hx2 := VRs_det (k0 := 9) hle 7 (fun i hi => by
              match i, hi with
              | 0, _ | 1, _ | 2, _ | 3, _ | 4, _ | 5, _ | 6, _ => exact ⟨_, rfl⟩) (show VRs ρ ((List.range' 9 7).map fun k => .ex (.sym k)) cs.toList from hx)
            have hcs : cs = #[.int .i64 S.kd, .string S.tx, .int .i64 S.mn, .int .i64 S.pl, .int .i64 S.ex, .bool S.gr, .bool S.lo] := Array.ext' (by rw [hx2]; rfl)
            subst hcs
            have hB := h38 b rfl w hL
            simp only [Bool.or_eq_true] at hff
            rcases hff with hff | hff
            · have := Nat.eq_of_beq_eq_true hff; subst this
              exact fin rfl hB.1 hv.symm
            · have := Nat.eq_of_beq_eq_true hff; subst this
              exact fin rfl hB.2 hv.symm
          · cases hv
        · cases hv
      · cases hv
    · split at hv
      · rename_i hff
        have := Nat.eq_of_beq_eq_true hff; subst this
        simp only [VRs] at ha
        obtain ⟨x, _, rfl, hx, rfl⟩ := ha
        have hx := ex_val hle (k := 18) (v := .float .f64 S.vl) rfl hx
        subst hx
        split at hv
        · simp only [Option.some.injEq] at hv
          exact fin rfl (hcl.2.2 w hL) hv.symm
        · simp only [Option.some.injEq] at hv
          exact fin rfl (hcl.2.1 w hL) hv.symm
        · cases hv
      · cases hv
    · rename_i z
      split at hv
      · rename_i hff
        have := Nat.eq_of_beq_eq_true hff; subst this
        split at hv
        · rename_i hz
          have hz := of_decide_eq_true hz
          subst hz
          simp only [VRs] at ha
          obtain ⟨x, _, rfl, hx, y, _, rfl, hy, rfl⟩ := ha
          have hx := ex_val hle (k := 18) (v := .float .f64 S.vl) rfl hx
          simp only [VR] at hy
          subst hx hy
          split at hv
          · simp only [Option.some.injEq] at hv
            exact fin rfl (hcl.2.2 w hL) hv.symm
          · cases hv
        · cases hv
      · cases hv
    · cases hv
  · intro op gg v hv base ρ w e hst hle hx o ho
    have val : ∀ {k : Nat} {u : Value} {x : Operand}, gg x = .ex (.sym k) → S.vals[k]? = some u → e x = u := fun {k u x} hgx hk => ex_val hle hk (by rw [← hgx]; exact hx x)
    cases op with
    | call c =>
      simp only [sopc] at hv
      split at hv
      · rename_i hcal
        split at hv
        · rename_i t ht
          split at hv
          · rename_i x hargs
            split at hv
            · rename_i hgx
              split at hv
              · rename_i hb
                have hb := Nat.eq_of_beq_eq_true hb
                subst hb
                simp only [Option.some.injEq] at hv
                subst hv
                obtain ⟨a, len, cap, h1', h2'⟩ := hn
                have hex := val (u := S.p) hgx rfl
                rw [h1'] at hex
                refine ⟨.int .i64 len, hook_len ho hcal ht hargs Tryz.underlying37 hex w, ex_VR hle (k := 4) ?_ rfl⟩
                show some (Value.int .i64 S.n) = _
                rw [h2']
              · cases hv
            · rename_i hgx
              split at hv
              · rename_i hb
                have hb := Nat.eq_of_beq_eq_true hb
                subst hb
                simp only [Option.some.injEq] at hv
                subst hv
                obtain ⟨a, len, cap, h1', h2'⟩ := hm
                have hex := val (u := S.q) hgx rfl
                rw [h1'] at hex
                refine ⟨.int .i64 len, hook_len ho hcal ht hargs Tryz.underlying38 hex w, ex_VR hle (k := 7) ?_ rfl⟩
                show some (Value.int .i64 S.m) = _
                rw [h2']
              · cases hv
            · cases hv
          · cases hv
        · cases hv
      · cases hv
    | indexAddr t x i =>
      simp only [sopc] at hv
      split at hv
      · rename_i hgx
        split at hv
        · rename_i hgi
          split at hv
          · rename_i hb
            simp only [Bool.and_eq_true] at hb
            have hb1 := Nat.eq_of_beq_eq_true hb.1
            subst hb1
            simp only [Option.some.injEq] at hv
            subst hv
            obtain ⟨b, off, len, cap, j, k1, k2, k3, k4, k5, k6⟩ := h1 hb.2
            have hex := val (u := S.p) hgx rfl
            have hei := val (u := .int .i64 S.i) hgi rfl
            rw [k1] at hex
            rw [k2] at hei
            obtain ⟨inf, hinf, hsz⟩ := info80
            refine ⟨_, hook_index ho Tryz.underlying37 hinf hex hei k3 w, ex_VR hle (k := 8) ?_ rfl⟩
            show some S.e1 = _
            rw [k4, hsz]
          · cases hv
        · cases hv
      · rename_i hgx
        split at hv
        · rename_i hgi
          split at hv
          · rename_i hb
            simp only [Bool.and_eq_true] at hb
            have hb1 := Nat.eq_of_beq_eq_true hb.1
            subst hb1
            simp only [Option.some.injEq] at hv
            subst hv
            obtain ⟨b, off, len, cap, j, k1, k2, k3, k4, k5, k6⟩ := h2 hb.2
            have hex := val (u := S.q) hgx rfl
            have hei := val (u := .int .i64 S.i) hgi rfl
            rw [k1] at hex
            rw [k2] at hei
            obtain ⟨inf, hinf, hsz⟩ := info84
            refine ⟨_, hook_index ho Tryz.underlying38 hinf hex hei k3 w, ex_VR hle (k := 16) ?_ rfl⟩
            show some S.e2 = _
            rw [k4, hsz]
          · cases hv
        · cases hv
      · cases hv
    | load t p =>
      simp only [sopc] at hv
      split at hv
      · rename_i hgx
        split at hv
        · rename_i hb
          simp only [Bool.and_eq_true] at hb
          have hb1 := Nat.eq_of_beq_eq_true hb.1
          subst hb1
          simp only [Option.some.injEq] at hv
          subst hv
          obtain ⟨b, off, len, cap, j, k1, k2, k3, k4, k5, k6⟩ := h1 hb.2
          have hex := val (u := S.e1) hgx rfl
          rw [k4] at hex
          obtain ⟨inf, hinf, hsz⟩ := info80
          have hr : w.rangeAt b (off + j * 7) S.piece := range_later (still_later hst) k5 k6
          refine ⟨_, hook_load ho Tryz.underlying67 rfl hinf (by rw [hsz]; rfl) hex hr, ?_⟩
          simp only [VR]
          exact ⟨_, rfl, sPiece_VR hle⟩
        · cases hv
      · rename_i hgx
        split at hv
        · rename_i hb
          simp only [Bool.and_eq_true] at hb
          have hb1 := Nat.eq_of_beq_eq_true hb.1
          subst hb1
          simp only [Option.some.injEq] at hv
          subst hv
          obtain ⟨b, off, len, cap, j, k1, k2, k3, k4, k5, k6⟩ := h2 hb.2
          have hex := val (u := S.e2) hgx rfl
          rw [k4] at hex
          obtain ⟨inf, hinf, hsz⟩ := info84
          have hr : w.rangeAt b (off + j * 3) S.map := range_later (still_later hst) k5 k6
          refine ⟨_, hook_load ho Tryz.underlying71 rfl hinf (by rw [hsz]; rfl) hex hr, ?_⟩
          simp only [VR]
          exact ⟨_, rfl, sMap_VR hle hcl⟩
        · cases hv
      · cases hv
    | binOp o' t x y ty =>
      simp only [sopc] at hv
      split at hv
      · rename_i hgx
        split at hv
        · split at hv
          · rename_i hgy
            split at hv
            · simp only [Option.some.injEq] at hv
              subst hv
              have hex := val (u := .float .f64 S.vl) hgx rfl
              have hey := val (u := .float .f64 S.vl) hgy rfl
              refine ⟨.float .f64 0, ?_, by simp only [VR]⟩
              unfold execOp
              simp only [ho, hex, hey]
              rw [Sem.run_bind, evBin_exec (v := .float .f64 0) (by simp [evBin, Go.binOp, Op.floatArith, hcl.1, pure]; rfl) (fun _ h => by cases h) w]
              rfl
            · cases hv
          · cases hv
        · cases hv
      · rename_i hgx
        split at hv
        · split at hv
          · rename_i hz
            simp only [Option.some.injEq] at hv
            subst hv
            have h0 := hx x
            rw [hgx] at h0
            simp only [VR] at h0
            obtain ⟨bb, hex, hord⟩ := h0
            have h1' := hx y
            have hey : e y = .float .f64 0 := by
              unfold isZero at hz
              split at hz
              · rename_i b hgy
                have := Nat.eq_of_beq_eq_true hz
                subst this
                rw [hgy] at h1'
                simpa only [VR] using h1'
              · cases hz
            refine ⟨.bool true, ?_, by simp only [VR]⟩
            unfold execOp
            simp only [ho, hex, hey]
            rw [Sem.run_bind, evBin_exec (v := .bool true) (by simp [evBin, Go.binOp, Op.floatCmp, hord, pure0, pure]) (fun _ h => by cases h) w]
            rfl
          · cases hv
        · cases hv
      · cases hv
    | _ => cases hv
  · intro op gg v hv base ρ w e hst hle hx o ho
    have val : ∀ {k : Nat} {u : Value} {x : Operand}, gg x = .ex (.sym k) → S.vals[k]? = some u → e x = u := fun {k u x} hgx hk => ex_val hle hk (by rw [← hgx]; exact hx x)
    cases op with
    | binOp o' t x y ty =>
      simp only [sopn] at hv
      split at hv
      · split at hv
        · rename_i hgx
          split at hv
          · rename_i hgy
            split at hv
            · simp only [Option.some.injEq] at hv
              subst hv
              have hex := val (u := .float .f64 S.vl) hgx rfl
              have hey := val (u := .float .f64 S.vl) hgy rfl
              exact nan_sub ho hex hey hcl.2.1 w
            · cases hv
          · cases hv
        · rename_i b hgx
          split at hv
          · rename_i b' hgy
            split at hv
            · rename_i hbb
              have hbb := Nat.eq_of_beq_eq_true hbb
              subst hbb
              split at hv
              · rename_i hinf
                simp only [Option.some.injEq] at hv
                subst hv
                have h0 := hx x
                have h1' := hx y
                rw [hgx] at h0
                rw [hgy] at h1'
                simp only [VR] at h0 h1'
                refine nan_sub ho h0 h1' ?_ w
                simp only [isInf, Bool.or_eq_true] at hinf
                rcases hinf with h | h
                · have := Nat.eq_of_beq_eq_true h; subst this; decide +kernel
                · have := Nat.eq_of_beq_eq_true h; subst this; decide +kernel
              · cases hv
            · cases hv
          · cases hv
        · cases hv
      · cases hv
    | _ => cases hv
end Go.Proofs.YtkeibmkcgnppeaaGreatDoor.Ck
namespace Go.Proofs.YtkeibmkcgnppeaaGreatDoor.Ck
open Go Go.Proofs.YtkeibmkcgnppeaaGreatDoor.Rx
set_option maxRecDepth 100000
def okV : AV → Bool
  | .lit _ => true
  | .ptr b o => Nat.beq b 20 && Nat.beq o 0
  | .ex (.sym k) => decide (k < 20)
  | .ex (.bin o (.sym k) (.lit v)) => decide (o = .add) && (Nat.beq k 5 || Nat.beq k 6) && litSame v (.int .i64 1)
  | _ => false
theorem Later.still' {W w : World} (hg : Consts W) (h : Later W w) {b : Nat} (hb : W.heap.size ≤ b) {con : FuncId → List AV → Option AV} {opc opn : Op → (Operand → AV) → Option AV} {sy : Rx.Place} {tys : T Ty} {facts : List (Exp × Bool)} :
    (env.plus con opc opn sy (oldOf W) tys facts).Still b w :=
  have hs := h.still hg (con := con) (opc := opc) (opn := opn) (sy := sy) (tys := tys) (facts := facts)
  ⟨fun g off v hv => ⟨Nat.lt_of_lt_of_le (hs.1 g off v hv).1 hb, (hs.1 g off v hv).2⟩, fun k o ho => ⟨Nat.lt_of_lt_of_le (hs.2 k o ho).1 hb, (hs.2 k o ho).2⟩⟩
theorem okV_ok {B : Nat} {S : Sy} {lc : Rx.Loc} {ρ : Rx.Place} (hle : (oneMore 20 lc (symTab B S.vals)).le ρ) {v : AV} {x : Value} (hv : okV v = true) (h : VR ρ v x) :
    VR (oneMore 20 lc (symTab B S.vals)) v x := by
  have h20 : (oneMore 20 lc (symTab B S.vals)) 20 = some lc := rfl
  have hk : ∀ k v, k < 20 → S.vals[k]? = some v → (Exp.sym k).ev (oneMore 20 lc (symTab B S.vals)) = some v := by
    intro k v hlt hk
    have hne : Nat.beq k 20 = false := by
      cases hb : Nat.beq k 20 with
      | false => rfl
      | true => have := Nat.eq_of_beq_eq_true hb; omega
    simp only [Exp.ev, oneMore, hne, symTab, hk]
  unfold okV at hv
  split at hv
  · simpa only [VR] using h
  · simp only [Bool.and_eq_true] at hv
    have := Nat.eq_of_beq_eq_true hv.1
    have := Nat.eq_of_beq_eq_true hv.2
    subst_vars
    simp only [VR] at h ⊢
    obtain ⟨l, h1, h2⟩ := h
    rw [hle _ _ h20, Option.some.injEq] at h1
    subst h1
    exact ⟨_, h20, h2⟩
  · rename_i k
    have hlt := of_decide_eq_true hv
    have hget : ∃ v, S.vals[k]? = some v := ⟨S.vals[k]'(by show k < 20; exact hlt), List.getElem?_eq_getElem _⟩
    obtain ⟨v, hg⟩ := hget
    have he := hk k v hlt hg
    simp only [VR] at h ⊢
    have h2 := Exp.ev_mono hle he
    rw [h.1, Option.some.injEq] at h2
    subst h2
    exact ⟨he, h.2⟩
  · rename_i o k u
    simp only [Bool.and_eq_true, Bool.or_eq_true] at hv
    have ho := of_decide_eq_true hv.1.1
    have hu := litSame_ok hv.2
    subst ho hu
    have hb : ∃ n, S.vals[k]? = some (.int .i64 n) := by
      rcases hv.1.2 with h | h
      · have := Nat.eq_of_beq_eq_true h; subst this; exact ⟨_, rfl⟩
      · have := Nat.eq_of_beq_eq_true h; subst this; exact ⟨_, rfl⟩
    have hlt : k < 20 := by
      rcases hv.1.2 with h | h
      · have := Nat.eq_of_beq_eq_true h; omega
      · have := Nat.eq_of_beq_eq_true h; omega
    obtain ⟨n, hn⟩ := hb
    have he := hk k _ hlt hn
    have he2 : ∃ z, (Exp.bin .add (.sym k) (.lit (.int .i64 1))).ev (oneMore 20 lc (symTab B S.vals)) = some z := by
      have := he
      simp only [Exp.ev] at this ⊢
      rw [this]
      exact ⟨_, by simp [evBin, Go.binOp, Op.intArith, pure, pure0]; rfl⟩
    obtain ⟨z, hz⟩ := he2
    simp only [VR] at h ⊢
    have h2 := Exp.ev_mono hle hz
    rw [h.1, Option.some.injEq] at h2
    subst h2
    exact ⟨hz, h.2⟩
  · cases hv
def Stand (w0 : World) (S : Sy) (nt : Nat) (ts : List Nat) (vs : List AV) (a : Act) (w : World) : Prop :=
  a.tmps.size = nt ∧ a.defers = [] ∧ RowKit.Below w0.heap.size w0 w ∧ ∃ lc : Rx.Loc, w0.heap.size ≤ lc.blk ∧ BR (oneMore 20 lc (symTab w0.heap.size S.vals)) lc (.cells 40 4 (T.ofList sBox) false 0 false) w ∧
    ∀ x ∈ ts.zip vs, VR (oneMore 20 lc (symTab w0.heap.size S.vals)) x.2 (a.tmps.getD x.1 undef)
theorem FR.fold {ρ : Rx.Place} {n : Nat} {a : Act} : ∀ {l : List (Nat × AV)} {F : T AV}, (∀ x ∈ l, VR ρ x.2 (a.tmps.getD x.1 undef)) → FR ρ F n a → FR ρ (l.foldl (fun F x => F.set x.1 x.2) F) n a
  | [], _, _, h => h
  | x :: l, F, hx, h => FR.fold (l := l) (fun y hy => hx y (by simp [hy])) (h.keep (hx x (by simp)))
theorem below_later {W w0 w : World} (h : Later W w0) (hb : RowKit.Below w0.heap.size w0 w) : Later W w :=
  ⟨Nat.le_trans h.1 hb.size, fun k hk => by rw [hb.block k (Nat.lt_of_lt_of_le hk h.1), h.2 k hk]⟩
section
variable {W w0 : World} {S : Sy} {nt : Nat} {g r : Option Bool} {in1 in2 : Bool} {cl : Cl} {facts : List (Exp × Bool)}
theorem seg_core {ts' : List Nat} {vs' : List AV} {l : List Code} {x : AExit} {s : St} {Q : Exit → Act → World → Prop} {a : Act} {w : World} {ρ : Rx.Place}
    (OK : (senv g r in1 in2 cl (symTab w0.heap.size S.vals) (oldOf W) facts).OK) (hok : vs'.all okV = true)
    (h : goesOn ts' vs' x (runL (senv g r in1 in2 cl (symTab w0.heap.size S.vals) (oldOf W) facts) nt l s) = true)
    (hr : SR (senv g r in1 in2 cl (symTab w0.heap.size S.vals) (oldOf W) facts) w0.heap.size none ρ s nt a w) (hb : RowKit.Below w0.heap.size w0 w)
    (hQ : ∀ a' w' e ρ', XR ρ' x e → Stand w0 S nt ts' vs' a' w' → Q e a' w') : wpL Tryz.prog l Q a w := by
  obtain ⟨s', h1, hD, hT, T', hbl, hcs⟩ := afterBox_ok h
  refine evalL_ok OK (base := w0.heap.size) l s x s' h1 Q ρ a w hr fun ρ' a' w' e st sr xr => hQ a' w' e ρ' xr ?_
  have hdef : a'.defers = [] := by
    have := sr.dr
    rw [hD] at this
    exact this
  have hbel : RowKit.Below w0.heap.size w0 w' := hb.trans (st.below hr.cons hr.base)
  obtain ⟨lc, hlc, hbr⟩ := sr.cons.blk 20 _ hbl
  have hle : (oneMore 20 lc (symTab w0.heap.size S.vals)).le ρ' := by
    intro k l hk
    unfold oneMore at hk
    split at hk
    · rename_i e
      have := Nat.eq_of_beq_eq_true e
      subst this
      rw [← hk]; exact hlc
    · exact sr.cons.sym _ _ hk
  refine ⟨sr.fr.size, hdef, hbel, lc, sr.cons.low _ _ hlc, ?_, ?_⟩
  · refine hbr.to fun i v hi hv => ?_
    have hc : ∀ i, i < 4 → cellOf T' i = cellOf (T.ofList sBox) i := by
      intro i hi
      have h2 := cellsFrom_get T' 4 0 i hi
      rw [hcs, Nat.zero_add] at h2
      match i, hi with
      | 0, _ | 1, _ | 2, _ | 3, _ =>
        simp only [sBox, List.getElem?_cons_zero, List.getElem?_cons_succ, Option.some.injEq] at h2
        rw [← h2]; rfl
    rw [hc i hi] at hv
    refine okV_ok hle ?_ hv
    match i, hi with
    | 0, _ | 1, _ | 2, _ | 3, _ => rfl
  · intro y hy
    have hmem : ∃ t v, y = (t, v) ∧ v = opd s'.F (.tmp t) ∧ v ∈ vs' := by
      rw [← hT] at hy
      have hz : ts'.zip (ts'.map fun t => opd s'.F (.tmp t)) = ts'.map fun t => (t, opd s'.F (.tmp t)) := by
        rw [List.zip_map_right]
        simp [List.zip_eq_zipWith]
      rw [hz] at hy
      obtain ⟨t, ht, rfl⟩ := List.mem_map.1 hy
      exact ⟨t, _, rfl, rfl, by rw [← hT]; exact List.mem_map.2 ⟨t, ht, rfl⟩⟩
    obtain ⟨t, v, rfl, hv, hmv⟩ := hmem
    have := sr.fr.get t
    rw [← hv] at this
    exact okV_ok hle (List.all_eq_true.1 hok v hmv) this
theorem ret_core {c : Int} {l : List Code} {s : St} {Q : Exit → Act → World → Prop} {a : Act} {w : World} {ρ : Rx.Place}
    (OK : (senv g r in1 in2 cl (symTab w0.heap.size S.vals) (oldOf W) facts).OK)
    (h : rets c (runL (senv g r in1 in2 cl (symTab w0.heap.size S.vals) (oldOf W) facts) nt l s) = true)
    (hr : SR (senv g r in1 in2 cl (symTab w0.heap.size S.vals) (oldOf W) facts) w0.heap.size none ρ s nt a w) (hb : RowKit.Below w0.heap.size w0 w)
    (hQ : ∀ a' w', a'.defers = [] → a'.tmps.getD 4 undef = .int .i64 c → RowKit.Below w0.heap.size w0 w' → Q .ret a' w') : wpL Tryz.prog l Q a w := by
  obtain ⟨s', h1, hD, hT⟩ := after_ok h
  refine evalL_ok OK (base := w0.heap.size) l s .ret s' h1 Q ρ a w hr fun ρ' a' w' e st sr xr => ?_
  have hdef : a'.defers = [] := by
    have := sr.dr
    rw [hD] at this
    exact this
  cases e with
  | ret =>
    refine hQ a' w' hdef ?_ (hb.trans (st.below hr.cons hr.base))
    have := sr.fr.get 4
    simp only [List.map_cons, List.map_nil, List.cons.injEq, and_true] at hT
    rw [hT] at this
    simpa only [i64, VR] using this
  | _ => exact xr.elim
theorem Stand.sr {ts : List Nat} {vs : List AV} {a : Act} {w : World} (hg : Consts W) (hW : Later W w0) (h : Stand w0 S nt ts vs a w) :
    ∃ ρ, SR (senv g r in1 in2 cl (symTab w0.heap.size S.vals) (oldOf W) facts) w0.heap.size none ρ (stOf ts vs) nt a w := by
  obtain ⟨h1, h2, h3, lc, h4, h5, h6⟩ := h
  refine ⟨oneMore 20 lc (symTab w0.heap.size S.vals), ?_, FR.fold h6 (FR.leaf h1), h2, h3.size, trivial⟩
  exact Cons.box (b := 20) rfl (Nat.le_refl 20) ((below_later hW h3).still' hg hW.1) h4 h5
end
end Go.Proofs.YtkeibmkcgnppeaaGreatDoor.Ck
namespace Go.Proofs.YtkeibmkcgnppeaaGreatDoor.Ck
open Go Go.Proofs.YtkeibmkcgnppeaaGreatDoor.Rx
set_option maxRecDepth 100000
theorem sig_sym {B : Nat} {l : List Value} {lc : Rx.Loc} {k : Nat} (hlt : k < 20) {v : Value} (h : l[k]? = some v) : (Exp.sym k).ev (oneMore 20 lc (symTab B l)) = some v := by
  have hne : Nat.beq k 20 = false := by
    cases hb : Nat.beq k 20 with
    | false => rfl
    | true => have := Nat.eq_of_beq_eq_true hb; omega
  simp only [Exp.ev, oneMore, hne, symTab, h]
section
variable {B : Nat} {l l' : List Value} {lc : Rx.Loc} {x : Value}
theorem cv_lit {v : Value} (h : VR (oneMore 20 lc (symTab B l)) (.lit v) x) : VR (oneMore 20 lc (symTab B l')) (.lit v) x := by simpa only [VR] using h
theorem cv_ptr (h : VR (oneMore 20 lc (symTab B l)) (.ptr 20 0) x) : VR (oneMore 20 lc (symTab B l')) (.ptr 20 0) x := by
  simp only [VR] at h ⊢
  exact h
theorem cv_sym {k : Nat} {v : Value} (hlt : k < 20) (h1 : l[k]? = some v) (h2 : l'[k]? = some v) (h : VR (oneMore 20 lc (symTab B l)) (.ex (.sym k)) x) : VR (oneMore 20 lc (symTab B l')) (.ex (.sym k)) x := by
  simp only [VR] at h ⊢
  rw [sig_sym hlt h1] at h
  exact ⟨by rw [sig_sym hlt h2]; exact h.1, h.2⟩
theorem cv_inc {k : Nat} {n : Nat} (hlt : k < 20) (h1 : l[k]? = some (.int .i64 n)) (h2 : l'[k]? = some (.int .i64 (n + 1 : Nat))) (hb : n < 100000) (h : VR (oneMore 20 lc (symTab B l)) (inc k) x) : VR (oneMore 20 lc (symTab B l')) (.ex (.sym k)) x := by
  simp only [inc, VR] at h ⊢
  have he := sig_sym (B := B) (lc := lc) hlt h1
  have h3 : (Exp.bin .add (.sym k) (.lit (.int .i64 1))).ev (oneMore 20 lc (symTab B l)) = some (.int .i64 (n + 1 : Nat)) := by
    simp only [Exp.ev] at he ⊢
    rw [he]
    have hw : IntKind.i64.wrap ((n : Int) + 1) = (n : Int) + 1 := by
      have h1 : ((n : Int) + 1) % (2 ^ 64 : Int) = (n : Int) + 1 := by
        have : (2 ^ 64 : Int) = 18446744073709551616 := rfl
        rw [this]; omega
      have h2 : ¬ ((n : Int) + 1 ≥ (2 ^ 63 : Int)) := by
        have : (2 ^ 63 : Int) = 9223372036854775808 := rfl
        rw [this]; omega
      show (if (true && decide (((n : Int) + 1) % (2 ^ 64 : Int) ≥ (2 ^ 63 : Int))) = true then ((n : Int) + 1) % (2 ^ 64 : Int) - (2 ^ 64 : Int) else ((n : Int) + 1) % (2 ^ 64 : Int)) = _
      rw [h1, if_neg (by simpa using h2)]
    simp [evBin, Go.binOp, Op.intArith, pure, pure0, hw]
  rw [h3] at h
  exact ⟨by rw [sig_sym hlt h2]; exact h.1, h.2⟩
theorem cv_zero {k : Nat} (hlt : k < 20) (h2 : l'[k]? = some (.int .i64 0)) (h : VR (oneMore 20 lc (symTab B l)) (i64 0) x) : VR (oneMore 20 lc (symTab B l')) (.ex (.sym k)) x := by
  simp only [i64, VR] at h ⊢
  subst h
  exact ⟨sig_sym hlt h2, rfl⟩
end
theorem Stand.re {w0 : World} {S S' : Sy} {nt : Nat} {ts : List Nat} {vs vs' : List AV} {a : Act} {w : World} (h : Stand w0 S nt ts vs a w) (hk : S'.k = S.k) (hp : S'.p = S.p) (hq : S'.q = S.q) (hw : S'.wh = S.wh)
    (hlen : vs.length = vs'.length)
    (hc : ∀ (lc : Rx.Loc) (i : Nat) (v v' : AV), vs[i]? = some v → vs'[i]? = some v' → ∀ x, VR (oneMore 20 lc (symTab w0.heap.size S.vals)) v x → VR (oneMore 20 lc (symTab w0.heap.size S'.vals)) v' x) :
    Stand w0 S' nt ts vs' a w := by
  obtain ⟨h1, h2, h3, lc, h4, h5, h6⟩ := h
  refine ⟨h1, h2, h3, lc, h4, h5.to fun i v hi hv => ?_, fun y hy => ?_⟩
  · match i, hi with
    | 0, _ => exact cv_sym (k := 0) (by decide) (v := .int .i64 S.k) rfl (by rw [← hk]; rfl) hv
    | 1, _ => exact cv_sym (k := 1) (by decide) (v := S.p) rfl (by rw [← hp]; rfl) hv
    | 2, _ => exact cv_sym (k := 2) (by decide) (v := S.q) rfl (by rw [← hq]; rfl) hv
    | 3, _ => exact cv_sym (k := 3) (by decide) (v := .bool S.wh) rfl (by rw [← hw]; rfl) hv
  · obtain ⟨i, hi⟩ := List.getElem?_of_mem hy
    rw [List.getElem?_zip_eq_some] at hi
    obtain ⟨hi1, hi2⟩ := hi
    have hlt : i < vs.length := by
      rw [hlen]
      rcases Nat.lt_or_ge i vs'.length with h | h
      · exact h
      · rw [List.getElem?_eq_none h] at hi2; cases hi2
    have hv := List.getElem?_eq_getElem hlt
    refine hc lc i _ _ hv hi2 _ (h6 (y.1, vs[i]) ?_)
    exact List.mem_of_getElem? (i := i) (by rw [List.getElem?_zip_eq_some]; exact ⟨hi1, hv⟩)
theorem wp_one {P : Program} {c : Code} {Q : Exit → Act → World → Prop} {a : Act} {w : World} (h : wpL P [c] Q a w) : c.wp P Q a w :=
  wp_mono (show c.wp P (Exit.then (wpL P [] Q) Q) a w from h) fun e a w he => by
    cases e with
    | normal => exact he
    | _ => exact he
structure Pc where
  e : Value
  kd : Int
  tx : ByteArray
  mn : Int
  pl : Int
  ex : Int
  gr : Bool
  lo : Bool
structure Mp where
  e : Value
  op : Int
  vl : Nat
  ap : Int
structure FD where
  k : Int
  p : Value
  q : Value
  wh : Bool
  n : Nat
  m : Nat
  P : Nat → Pc
  M : Nat → Mp
  gd : Nat → Bool
  rd : Nat → Bool
  bd : Nat → Bool
def FD.s1 (D : FD) (i c : Nat) : Sy := { k := D.k, p := D.p, q := D.q, wh := D.wh, n := D.n, m := D.m, i := i, c := c, e1 := (D.P i).e, kd := (D.P i).kd, tx := (D.P i).tx, mn := (D.P i).mn, pl := (D.P i).pl, ex := (D.P i).ex, gr := (D.P i).gr, lo := (D.P i).lo }
def FD.s2 (D : FD) (j c : Nat) : Sy := { k := D.k, p := D.p, q := D.q, wh := D.wh, n := D.n, m := D.m, i := j, c := c, e2 := (D.M j).e, op := (D.M j).op, vl := (D.M j).vl, ap := (D.M j).ap }
def FD.num (D : FD) (i : Nat) : Nat := if (D.P i).kd = 2 ∨ (D.P i).kd = 3 then 1 else 0
def FD.cnt (D : FD) : Nat → Nat
  | 0 => 0
  | i + 1 => D.cnt i + D.num i
structure FD.OK (W : World) (D : FD) : Prop where
  cs : Consts W
  sp : SlOK D.p D.n
  sq : SlOK D.q D.m
  hn : D.n ≤ 64
  hm : D.m ≤ 8
  k0 : 0 ≤ D.k
  k7 : D.k ≤ 7
  el1 : ∀ i c, i < D.n → ElOK W D.p i (D.P i).e 7 (D.s1 i c).piece
  el2 : ∀ j c, j < D.m → ElOK W D.q j (D.M j).e 3 (D.s2 j c).map
  hg : ∀ i, i < D.n → Both W 40 49 #[.int .i64 D.k, .int .i64 (D.P i).kd] (D.gd i)
  hr : ∀ i, i < D.n → Both W 41 50 #[prow (D.P i).kd (D.P i).mn (D.P i).pl (D.P i).ex (D.P i).tx (D.P i).gr (D.P i).lo] (D.rd i)
  hb : ∀ j, j < D.m → ∃ cl fs, ClOK W (D.M j).vl cl ∧ (∀ b, ∀ f ∈ fs, f.1.ev (symTab b (D.s2 j (D.cnt D.n)).vals) = some (.bool f.2)) ∧ ∀ sy old, chkM (D.bd j) (senv none none false true cl sy old fs) = true
theorem FD.cnt_le (D : FD) : ∀ i, D.cnt i ≤ i
  | 0 => Nat.le_refl _
  | i + 1 => by
    have := D.cnt_le i
    simp only [FD.cnt, FD.num]
    split <;> omega
theorem loop_step {P : Program} {c : Code} {Q : Exit → Act → World → Prop} {a : Act} {w : World} (h : c.wp P (Exit.then (wpC P none (.loop c) c Q) Q) a w) : wpC P none (.loop c) c Q a w :=
  wpC_loop ((wpIn_wide (n := 0)).2 h)
theorem loop_done {P : Program} {c : Code} {Q : Exit → Act → World → Prop} {a : Act} {w : World} (h : wpC P none (.loop c) c Q a w) : (Code.loop c).wp P Q a w :=
  (wpIn_wide (n := 0)).1 (wp_loop_in h)
def Turns (hh : AV → AV → List AV) : Prop :=
  ∀ {B : Nat} {l l' : List Value} {lc : Rx.Loc} {i i' c c' : AV}, (∀ x, VR (oneMore 20 lc (symTab B l)) i x → VR (oneMore 20 lc (symTab B l')) i' x) → (∀ x, VR (oneMore 20 lc (symTab B l)) c x → VR (oneMore 20 lc (symTab B l')) c' x) →
    (∀ k, k = 1 ∨ k = 2 ∨ k = 4 ∨ k = 7 ∨ k = 6 → ∃ v, l[k]? = some v ∧ (k = 6 ∨ l'[k]? = some v)) → ∀ (j : Nat) (v v' : AV), (hh i c)[j]? = some v → (hh i' c')[j]? = some v' → ∀ x, VR (oneMore 20 lc (symTab B l)) v x → VR (oneMore 20 lc (symTab B l')) v' x
theorem cmp_ev {B : Nat} {l : List Value} {o : BinOp} {k : Nat} {n c : Int} {t : Bool} (hk : l[k]? = some (.int .i64 n)) (h : cmpInt o n c = some t) : (cmpL o k c).ev (symTab B l) = some (.bool t) := by
  have h1 : (Exp.sym k).ev (symTab B l) = some (.int .i64 n) := by simp only [Exp.ev, symTab, hk]
  simp only [cmpL, Exp.ev] at h1 ⊢
  rw [h1]
  exact cmpInt_ev h
theorem less_ev {B : Nat} {l : List Value} {j k : Nat} {n m : Int} (hj : l[j]? = some (.int .i64 n)) (hk : l[k]? = some (.int .i64 m)) : (Exp.bin .lss (.sym j) (.sym k)).ev (symTab B l) = some (.bool (decide (n < m))) := by
  simp only [Exp.ev, symTab, hj, hk]
  exact cmpInt_ev rfl
structure One (nt : Nat) (ts : List Nat) (hh : AV → AV → List AV) (la : Code) : Prop where
  turns : Turns hh
  len : ∀ a b c d, (hh a b).length = (hh c d).length
  ok : (hh (inc 5) (inc 6)).all okV = true ∧ (hh (inc 5) (.ex (.sym 6))).all okV = true
  stop : ∀ sy old, goesOn [1, 2, 5] [i64 256, .ptr 20 0, .ex (.sym 6)] (.exit 0) (runL (senv none none false false .off sy old [(more, false)]) nt [la] (stOf ts (hh (.ex (.sym 5)) (.ex (.sym 6))))) = true
  bad1 : ∀ sy old r, rets 100 (runL (senv (some false) r true false .off sy old [(more, true)]) nt [la] (stOf ts (hh (.ex (.sym 5)) (.ex (.sym 6))))) = true
  bad2 : ∀ sy old, rets 100 (runL (senv (some true) (some false) true false .off sy old [(more, true)]) nt [la] (stOf ts (hh (.ex (.sym 5)) (.ex (.sym 6))))) = true
  go2 : ∀ sy old, goesOn ts (hh (inc 5) (inc 6)) .normal (runL (senv (some true) (some true) true false .off sy old [(num2, true), (more, true)]) nt [la] (stOf ts (hh (.ex (.sym 5)) (.ex (.sym 6))))) = true
  go3 : ∀ sy old, goesOn ts (hh (inc 5) (inc 6)) .normal (runL (senv (some true) (some true) true false .off sy old [(num2, false), (num3, true), (more, true)]) nt [la] (stOf ts (hh (.ex (.sym 5)) (.ex (.sym 6))))) = true
  go0 : ∀ sy old, goesOn ts (hh (inc 5) (.ex (.sym 6))) .normal (runL (senv (some true) (some true) true false .off sy old [(num2, false), (num3, false), (more, true)]) nt [la] (stOf ts (hh (.ex (.sym 5)) (.ex (.sym 6))))) = true
theorem one14 : One 117 ts14 h14 la14 where
  turns := by
    intro B l l' lc i i' c c' hi hc hs j v v' hv hv' x hx
    match j with
    | 0 => obtain rfl := Option.some.inj hv; obtain rfl := Option.some.inj hv'; exact cv_lit hx
    | 1 => obtain rfl := Option.some.inj hv; obtain rfl := Option.some.inj hv'; exact cv_ptr hx
    | 2 => obtain rfl := Option.some.inj hv; obtain rfl := Option.some.inj hv'; obtain ⟨u, h1, h2⟩ := hs 1 (by simp); exact cv_sym (by decide) h1 (h2.resolve_left (by decide)) hx
    | 3 => obtain rfl := Option.some.inj hv; obtain rfl := Option.some.inj hv'; obtain ⟨u, h1, h2⟩ := hs 4 (by simp); exact cv_sym (by decide) h1 (h2.resolve_left (by decide)) hx
    | 4 => obtain rfl := Option.some.inj hv; obtain rfl := Option.some.inj hv'; exact hi x hx
    | 5 => obtain rfl := Option.some.inj hv; obtain rfl := Option.some.inj hv'; exact hc x hx
    | j + 6 => simp [h14] at hv
  len _ _ _ _ := rfl
  ok := ⟨rfl, rfl⟩
  stop := la14_end
  bad1 := la14_bad1
  bad2 := la14_bad2
  go2 := la14_num2
  go3 := la14_num3
  go0 := la14_num
theorem one6 : One 122 ts6 h6 la6 where
  turns := by
    intro B l l' lc i i' c c' hi hc hs j v v' hv hv' x hx
    match j with
    | 0 => obtain rfl := Option.some.inj hv; obtain rfl := Option.some.inj hv'; exact cv_lit hx
    | 1 => obtain rfl := Option.some.inj hv; obtain rfl := Option.some.inj hv'; exact cv_ptr hx
    | 2 => obtain rfl := Option.some.inj hv; obtain rfl := Option.some.inj hv'; exact hi x hx
    | 3 => obtain rfl := Option.some.inj hv; obtain rfl := Option.some.inj hv'; exact hc x hx
    | j + 4 => simp [h6] at hv
  len _ _ _ _ := rfl
  ok := ⟨rfl, rfl⟩
  stop := la6_end
  bad1 := la6_bad1
  bad2 := la6_bad2
  go2 := la6_num2
  go3 := la6_num3
  go0 := la6_num
theorem cons_fact {σ : Rx.Place} {e : Exp} {b : Bool} {l : List (Exp × Bool)} (h : e.ev σ = some (.bool b)) (hl : ∀ f ∈ l, f.1.ev σ = some (.bool f.2)) : ∀ f ∈ (e, b) :: l, f.1.ev σ = some (.bool f.2) := by
  intro f hf
  rcases List.mem_cons.1 hf with rfl | hf
  · exact h
  · exact hl f hf
theorem FD.s1_turn (D : FD) {i c i' c' : Nat} : ∀ k, k = 1 ∨ k = 2 ∨ k = 4 ∨ k = 7 ∨ k = 6 → ∃ v, (D.s1 i c).vals[k]? = some v ∧ (k = 6 ∨ (D.s1 i' c').vals[k]? = some v) := by
  intro k hk
  rcases hk with rfl | rfl | rfl | rfl | rfl
  · exact ⟨_, rfl, .inr rfl⟩
  · exact ⟨_, rfl, .inr rfl⟩
  · exact ⟨_, rfl, .inr rfl⟩
  · exact ⟨_, rfl, .inr rfl⟩
  · exact ⟨_, rfl, .inl rfl⟩
theorem loop1 {W w0 : World} {D : FD} (hD : D.OK W) (hW : Later W w0) {nt : Nat} {ts : List Nat} {hh : AV → AV → List AV} {la : Code} (O : One nt ts hh la) {Q : Exit → Act → World → Prop}
    (hbad : ∀ i, i < D.n → (D.gd i && D.rd i) = false → ∀ a' w', a'.defers = [] → a'.tmps.getD 4 undef = .int .i64 100 → RowKit.Below w0.heap.size w0 w' → Q .ret a' w')
    (hend : (∀ i, i < D.n → (D.gd i && D.rd i) = true) → ∀ a' w', Stand w0 (D.s1 D.n (D.cnt D.n)) nt [1, 2, 5] [i64 256, .ptr 20 0, .ex (.sym 6)] a' w' → Q (.exit 0) a' w') :
    ∀ (d i : Nat), i + d = D.n → (∀ j, j < i → (D.gd j && D.rd j) = true) → ∀ a w, Stand w0 (D.s1 i (D.cnt i)) nt ts (hh (.ex (.sym 5)) (.ex (.sym 6))) a w → wpC Tryz.prog none (.loop la) la Q a w := by
  intro d
  induction d with
  | zero =>
    intro i hi hgood a w hs
    obtain rfl : i = D.n := by omega
    refine loop_step (wp_one ?_)
    have hf : ∀ f ∈ [(more, false)], f.1.ev (symTab w0.heap.size (D.s1 D.n (D.cnt D.n)).vals) = some (.bool f.2) := one_fact (by
      have := less_ev (B := w0.heap.size) (l := (D.s1 D.n (D.cnt D.n)).vals) (j := 5) (k := 4) (n := D.n) (m := D.n) rfl rfl
      rw [decide_eq_false (by omega)] at this
      exact this)
    have OK : (senv none none false false .off (symTab w0.heap.size (D.s1 D.n (D.cnt D.n)).vals) (oldOf W) [(more, false)]).OK :=
      senv_ok (fun _ h => by cases h) (fun _ h => by cases h) hD.sp hD.sq (fun h => by cases h) (fun h => by cases h) trivial hf
    obtain ⟨ρ, hr⟩ := hs.sr (g := none) (r := none) (in1 := false) (in2 := false) (cl := .off) (facts := [(more, false)]) hD.cs hW
    refine seg_core OK rfl (O.stop _ _) hr hs.2.2.1 fun a' w' e ρ' xr hst => ?_
    cases e with
    | exit j => cases xr; exact hend (fun j hj => hgood j hj) a' w' hst
    | _ => exact xr.elim
  | succ d ih =>
    intro i hi hgood a w hs
    have hlt : i < D.n := by omega
    have hmore : more.ev (symTab w0.heap.size (D.s1 i (D.cnt i)).vals) = some (.bool true) := by
      have := less_ev (B := w0.heap.size) (l := (D.s1 i (D.cnt i)).vals) (j := 5) (k := 4) (n := i) (m := D.n) rfl rfl
      rw [decide_eq_true (by omega)] at this
      exact this
    refine loop_step (wp_one ?_)
    have hB1 : ∀ b, some (D.gd i) = some b → Both W 40 49 #[.int .i64 (D.s1 i (D.cnt i)).k, .int .i64 (D.s1 i (D.cnt i)).kd] b := fun b hb => by
      simp only [Option.some.injEq] at hb
      subst hb
      exact hD.hg i hlt
    have hB2 : ∀ b, some (D.rd i) = some b → Both W 41 50 #[prow (D.s1 i (D.cnt i)).kd (D.s1 i (D.cnt i)).mn (D.s1 i (D.cnt i)).pl (D.s1 i (D.cnt i)).ex (D.s1 i (D.cnt i)).tx (D.s1 i (D.cnt i)).gr (D.s1 i (D.cnt i)).lo] b := fun b hb => by
      simp only [Option.some.injEq] at hb
      subst hb
      exact hD.hr i hlt
    have mk : ∀ {g r : Option Bool} {facts : List (Exp × Bool)}, (∀ b, g = some b → some (D.gd i) = some b) → (∀ b, r = some b → some (D.rd i) = some b) → (∀ f ∈ facts, f.1.ev (symTab w0.heap.size (D.s1 i (D.cnt i)).vals) = some (.bool f.2)) →
        (senv g r true false .off (symTab w0.heap.size (D.s1 i (D.cnt i)).vals) (oldOf W) facts).OK := fun hg hr hf =>
      senv_ok (fun b hb => hB1 b (hg b hb)) (fun b hb => hB2 b (hr b hb)) hD.sp hD.sq (fun _ => hD.el1 i _ hlt) (fun h => by cases h) trivial hf
    have next : ∀ {c c' : AV}, (∀ {lc : Rx.Loc} (x : Value), VR (oneMore 20 lc (symTab w0.heap.size (D.s1 i (D.cnt i)).vals)) c x → VR (oneMore 20 lc (symTab w0.heap.size (D.s1 (i + 1) (D.cnt (i + 1))).vals)) (.ex (.sym 6)) x) → ∀ a' w', Stand w0 (D.s1 i (D.cnt i)) nt ts (hh (inc 5) c) a' w' →
        (hh (inc 5) c).length = (hh (.ex (.sym 5)) (.ex (.sym 6))).length → (D.gd i && D.rd i) = true → wpC Tryz.prog none (.loop la) la Q a' w' := by
      intro c c' hc a' w' hst hlen hgo
      refine ih (i + 1) (by omega) (fun j hj => ?_) a' w' (hst.re rfl rfl rfl rfl hlen fun lc j v v' hv hv' x hx => ?_)
      · rcases Nat.lt_or_ge j i with h | h
        · exact hgood j h
        · obtain rfl : j = i := by omega
          exact hgo
      · exact O.turns (fun x hx => cv_inc (k := 5) (n := i) (by decide) rfl rfl (by have := hD.hn; omega) hx) (fun x hx => hc x hx) (D.s1_turn) j v v' hv hv' x hx
    have hcl := D.cnt_le i
    have hn := hD.hn
    cases hgd : D.gd i with
    | false =>
      obtain ⟨ρ, hr⟩ := hs.sr (g := some false) (r := none) (in1 := true) (in2 := false) (cl := .off) (facts := [(more, true)]) hD.cs hW
      refine ret_core (mk (fun b hb => by rw [hgd]; exact hb) (fun b hb => by cases hb) (one_fact hmore)) (O.bad1 _ _ none) hr hs.2.2.1 fun a' w' h1 h2 h3 => ?_
      exact hbad i hlt (by rw [hgd]; rfl) a' w' h1 h2 h3
    | true =>
      cases hrd : D.rd i with
      | false =>
        obtain ⟨ρ, hr⟩ := hs.sr (g := some true) (r := some false) (in1 := true) (in2 := false) (cl := .off) (facts := [(more, true)]) hD.cs hW
        refine ret_core (mk (fun b hb => by rw [hgd]; exact hb) (fun b hb => by rw [hrd]; exact hb) (one_fact hmore)) (O.bad2 _ _) hr hs.2.2.1 fun a' w' h1 h2 h3 => ?_
        exact hbad i hlt (by rw [hgd, hrd]; rfl) a' w' h1 h2 h3
      | true =>
        have hgo : (D.gd i && D.rd i) = true := by rw [hgd, hrd]; rfl
        by_cases h2 : (D.P i).kd = 2
        · have hf : num2.ev (symTab w0.heap.size (D.s1 i (D.cnt i)).vals) = some (.bool true) := cmp_ev (k := 9) (n := (D.P i).kd) rfl (by simp [cmpInt, h2])
          obtain ⟨ρ, hr⟩ := hs.sr (g := some true) (r := some true) (in1 := true) (in2 := false) (cl := .off) (facts := [(num2, true), (more, true)]) hD.cs hW
          refine seg_core (mk (fun b hb => by rw [hgd]; exact hb) (fun b hb => by rw [hrd]; exact hb) (two_facts hf hmore)) O.ok.1 (O.go2 _ _) hr hs.2.2.1 fun a' w' e ρ' xr hst => ?_
          cases e with
          | normal =>
            refine next (c' := .unk) (fun x hx => cv_inc (k := 6) (n := D.cnt i) (by decide) rfl ?_ (by omega) hx) a' w' hst (O.len _ _ _ _) hgo
            show some (Value.int .i64 ((D.cnt i + D.num i : Nat) : Int)) = _
            simp [FD.num, h2]
          | _ => exact xr.elim
        · have hf2 : num2.ev (symTab w0.heap.size (D.s1 i (D.cnt i)).vals) = some (.bool false) := cmp_ev (k := 9) (n := (D.P i).kd) rfl (by simp [cmpInt, h2])
          by_cases h3 : (D.P i).kd = 3
          · have hf : num3.ev (symTab w0.heap.size (D.s1 i (D.cnt i)).vals) = some (.bool true) := cmp_ev (k := 9) (n := (D.P i).kd) rfl (by simp [cmpInt, h3])
            obtain ⟨ρ, hr⟩ := hs.sr (g := some true) (r := some true) (in1 := true) (in2 := false) (cl := .off) (facts := [(num2, false), (num3, true), (more, true)]) hD.cs hW
            refine seg_core (mk (fun b hb => by rw [hgd]; exact hb) (fun b hb => by rw [hrd]; exact hb) (cons_fact hf2 (two_facts hf hmore))) O.ok.1 (O.go3 _ _) hr hs.2.2.1 fun a' w' e ρ' xr hst => ?_
            cases e with
            | normal =>
              refine next (c' := .unk) (fun x hx => cv_inc (k := 6) (n := D.cnt i) (by decide) rfl ?_ (by omega) hx) a' w' hst (O.len _ _ _ _) hgo
              show some (Value.int .i64 ((D.cnt i + D.num i : Nat) : Int)) = _
              simp [FD.num, h3]
            | _ => exact xr.elim
          · have hf : num3.ev (symTab w0.heap.size (D.s1 i (D.cnt i)).vals) = some (.bool false) := cmp_ev (k := 9) (n := (D.P i).kd) rfl (by simp [cmpInt, h3])
            obtain ⟨ρ, hr⟩ := hs.sr (g := some true) (r := some true) (in1 := true) (in2 := false) (cl := .off) (facts := [(num2, false), (num3, false), (more, true)]) hD.cs hW
            refine seg_core (mk (fun b hb => by rw [hgd]; exact hb) (fun b hb => by rw [hrd]; exact hb) (cons_fact hf2 (two_facts hf hmore))) O.ok.2 (O.go0 _ _) hr hs.2.2.1 fun a' w' e ρ' xr hst => ?_
            cases e with
            | normal =>
              refine next (c' := .unk) (fun x hx => cv_sym (k := 6) (v := .int .i64 (D.cnt i)) (by decide) rfl ?_ hx) a' w' hst (O.len _ _ _ _) hgo
              show some (Value.int .i64 ((D.cnt i + D.num i : Nat) : Int)) = _
              simp [FD.num, h2, h3]
            | _ => exact xr.elim
end Go.Proofs.YtkeibmkcgnppeaaGreatDoor.Ck
namespace Go.Proofs.YtkeibmkcgnppeaaGreatDoor.Ck
open Go Go.Proofs.YtkeibmkcgnppeaaGreatDoor.Rx
set_option maxRecDepth 100000
def Turns2 (gg : AV → List AV) : Prop :=
  ∀ {B : Nat} {l l' : List Value} {lc : Rx.Loc} {i i' : AV}, (∀ x, VR (oneMore 20 lc (symTab B l)) i x → VR (oneMore 20 lc (symTab B l')) i' x) →
    (∀ k, k = 2 ∨ k = 6 ∨ k = 7 → ∃ v, l[k]? = some v ∧ l'[k]? = some v) → ∀ (j : Nat) (v v' : AV), (gg i)[j]? = some v → (gg i')[j]? = some v' → ∀ x, VR (oneMore 20 lc (symTab B l)) v x → VR (oneMore 20 lc (symTab B l')) v' x
structure Two (nt : Nat) (tm : List Nat) (gg : AV → List AV) (lb : Code) (te : List Nat) (ve : List AV) : Prop where
  turns : Turns2 gg
  len : ∀ a b, (gg a).length = (gg b).length
  ok : (gg (inc 5)).all okV = true ∧ ve.all okV = true
  stop : ∀ sy old, goesOn te ve (.exit 2) (runL (senv none none false false .off sy old [(more2, false)]) nt [lb] (stOf tm (gg (.ex (.sym 5))))) = true
  bad : ∀ E, chkM true E = true → rets 100 (runL E nt [lb] (stOf tm (gg (.ex (.sym 5))))) = true
  go : ∀ E, chkM false E = true → goesOn tm (gg (inc 5)) .normal (runL E nt [lb] (stOf tm (gg (.ex (.sym 5))))) = true
theorem two14 : Two 117 tm14 g14 lb14 [1, 2] [i64 256, .ptr 20 0] where
  turns := by
    intro B l l' lc i i' hi hs j v v' hv hv' x hx
    match j with
    | 0 => obtain rfl := Option.some.inj hv; obtain rfl := Option.some.inj hv'; exact cv_lit hx
    | 1 => obtain rfl := Option.some.inj hv; obtain rfl := Option.some.inj hv'; exact cv_ptr hx
    | 2 => obtain rfl := Option.some.inj hv; obtain rfl := Option.some.inj hv'; obtain ⟨u, h1, h2⟩ := hs 2 (by simp); exact cv_sym (by decide) h1 h2 hx
    | 3 => obtain rfl := Option.some.inj hv; obtain rfl := Option.some.inj hv'; obtain ⟨u, h1, h2⟩ := hs 7 (by simp); exact cv_sym (by decide) h1 h2 hx
    | 4 => obtain rfl := Option.some.inj hv; obtain rfl := Option.some.inj hv'; exact hi x hx
    | j + 5 => simp [g14] at hv
  len _ _ := rfl
  ok := ⟨rfl, rfl⟩
  stop := lb14_end
  bad E h := (and2_ok (show and2 _ _ = true from h)).1
  go E h := (and2_ok (show and2 _ _ = true from h)).1
theorem two6 : Two 122 tm6 g6 lb6 [1, 2, 5] [i64 256, .ptr 20 0, .ex (.sym 6)] where
  turns := by
    intro B l l' lc i i' hi hs j v v' hv hv' x hx
    match j with
    | 0 => obtain rfl := Option.some.inj hv; obtain rfl := Option.some.inj hv'; exact cv_lit hx
    | 1 => obtain rfl := Option.some.inj hv; obtain rfl := Option.some.inj hv'; exact cv_ptr hx
    | 2 => obtain rfl := Option.some.inj hv; obtain rfl := Option.some.inj hv'; obtain ⟨u, h1, h2⟩ := hs 6 (by simp); exact cv_sym (by decide) h1 h2 hx
    | 3 => obtain rfl := Option.some.inj hv; obtain rfl := Option.some.inj hv'; exact hi x hx
    | j + 4 => simp [g6] at hv
  len _ _ := rfl
  ok := ⟨rfl, rfl⟩
  stop := lb6_end
  bad E h := (and2_ok (show and2 _ _ = true from h)).2
  go E h := (and2_ok (show and2 _ _ = true from h)).2
theorem FD.s2_turn (D : FD) {j c j' : Nat} : ∀ k, k = 2 ∨ k = 6 ∨ k = 7 → ∃ v, (D.s2 j c).vals[k]? = some v ∧ (D.s2 j' c).vals[k]? = some v := by
  intro k hk
  rcases hk with rfl | rfl | rfl
  · exact ⟨_, rfl, rfl⟩
  · exact ⟨_, rfl, rfl⟩
  · exact ⟨_, rfl, rfl⟩
theorem loop2 {W w0 : World} {D : FD} (hD : D.OK W) (hW : Later W w0) {nt : Nat} {tm : List Nat} {gg : AV → List AV} {lb : Code} {te : List Nat} {ve : List AV} (O : Two nt tm gg lb te ve) {Q : Exit → Act → World → Prop}
    (hbad : ∀ j, j < D.m → D.bd j = true → ∀ a' w', a'.defers = [] → a'.tmps.getD 4 undef = .int .i64 100 → RowKit.Below w0.heap.size w0 w' → Q .ret a' w')
    (hend : (∀ j, j < D.m → D.bd j = false) → ∀ a' w', Stand w0 (D.s2 D.m (D.cnt D.n)) nt te ve a' w' → Q (.exit 2) a' w') :
    ∀ (d j : Nat), j + d = D.m → (∀ i, i < j → D.bd i = false) → ∀ a w, Stand w0 (D.s2 j (D.cnt D.n)) nt tm (gg (.ex (.sym 5))) a w → wpC Tryz.prog none (.loop lb) lb Q a w := by
  intro d
  induction d with
  | zero =>
    intro i hi hgood a w hs
    obtain rfl : i = D.m := by omega
    refine loop_step (wp_one ?_)
    have hf : ∀ f ∈ [(more2, false)], f.1.ev (symTab w0.heap.size (D.s2 D.m (D.cnt D.n)).vals) = some (.bool f.2) := one_fact (by
      have := less_ev (B := w0.heap.size) (l := (D.s2 D.m (D.cnt D.n)).vals) (j := 5) (k := 7) (n := D.m) (m := D.m) rfl rfl
      rw [decide_eq_false (by omega)] at this
      exact this)
    have OK : (senv none none false false .off (symTab w0.heap.size (D.s2 D.m (D.cnt D.n)).vals) (oldOf W) [(more2, false)]).OK :=
      senv_ok (fun _ h => by cases h) (fun _ h => by cases h) hD.sp hD.sq (fun h => by cases h) (fun h => by cases h) trivial hf
    obtain ⟨ρ, hr⟩ := hs.sr (g := none) (r := none) (in1 := false) (in2 := false) (cl := .off) (facts := [(more2, false)]) hD.cs hW
    refine seg_core OK O.ok.2 (O.stop _ _) hr hs.2.2.1 fun a' w' e ρ' xr hst => ?_
    cases e with
    | exit j => cases xr; exact hend (fun j hj => hgood j hj) a' w' hst
    | _ => exact xr.elim
  | succ d ih =>
    intro i hi hgood a w hs
    have hlt : i < D.m := by omega
    obtain ⟨cl, fs, hcl, hfs, hchk⟩ := hD.hb i hlt
    have OK : (senv none none false true cl (symTab w0.heap.size (D.s2 i (D.cnt D.n)).vals) (oldOf W) fs).OK :=
      senv_ok (fun _ h => by cases h) (fun _ h => by cases h) hD.sp hD.sq (fun h => by cases h) (fun _ => hD.el2 i _ hlt) hcl (hfs _)
    obtain ⟨ρ, hr⟩ := hs.sr (g := none) (r := none) (in1 := false) (in2 := true) (cl := cl) (facts := fs) hD.cs hW
    have hc := hchk (symTab w0.heap.size (D.s2 i (D.cnt D.n)).vals) (oldOf W)
    refine loop_step (wp_one ?_)
    cases hbd : D.bd i with
    | true =>
      rw [hbd] at hc
      exact ret_core OK (O.bad _ hc) hr hs.2.2.1 fun a' w' h1 h2 h3 => hbad i hlt hbd a' w' h1 h2 h3
    | false =>
      rw [hbd] at hc
      refine seg_core OK O.ok.1 (O.go _ hc) hr hs.2.2.1 fun a' w' e ρ' xr hst => ?_
      cases e with
      | normal =>
        refine ih (i + 1) (by omega) (fun j hj => ?_) a' w' (hst.re rfl rfl rfl rfl (O.len _ _) fun lc j v v' hv hv' x hx => ?_)
        · rcases Nat.lt_or_ge j i with h | h
          · exact hgood j h
          · obtain rfl : j = i := by omega
            exact hbd
        · exact O.turns (fun x hx => cv_inc (k := 5) (n := i) (by decide) rfl rfl (by have := hD.hm; omega) hx) D.s2_turn j v v' hv hv' x hx
      | _ => exact xr.elim
end Go.Proofs.YtkeibmkcgnppeaaGreatDoor.Ck
namespace Go.Proofs.YtkeibmkcgnppeaaGreatDoor.Ck
open Go Go.Proofs.YtkeibmkcgnppeaaGreatDoor.Rx
set_option maxRecDepth 100000
def FD.bad (D : FD) : Prop := (∃ i, i < D.n ∧ (D.gd i && D.rd i) = false) ∨ 1 < D.cnt D.n ∨ ∃ j, j < D.m ∧ D.bd j = true
open Classical in
noncomputable def FD.ans (D : FD) : Int := if D.bad then 100 else 0
def FD.arg (D : FD) : Value := .agg #[.int .i64 D.k, D.p, D.q, .bool D.wh]
theorem body14_eq : Tryz.f18.body = some (Tryz.f18.body.getD .skip) := by kernel_rfl
theorem body6_eq : Tryz.f25.body = some (Tryz.f25.body.getD .skip) := by kernel_rfl
theorem res14 : Tryz.f18.results = #[.tmp 4] := by kernel_rfl
theorem res6 : Tryz.f25.results = #[.tmp 4] := by kernel_rfl
theorem nt14 : Tryz.f18.ntmps = 117 := by kernel_rfl
theorem nt6 : Tryz.f25.ntmps = 122 := by kernel_rfl
theorem leave {P : Program} {fn : Func} (hres : fn.results = #[.tmp 4]) {R : Ending → World → Prop} {a : Act} {w : World} {v : Value} (hd : a.defers = []) (hv : a.tmps.getD 4 undef = v) (hR : R (.returned v) w) : bodyPostX P fn R .ret a w := by
  show LeavesX P fn a.tmps R a.defers .returning w
  rw [hd]
  refine ⟨v, ?_, hR⟩
  unfold results
  rw [hres, ← hv]
  simp
theorem FD.s1_facts (D : FD) {B : Nat} (hn : D.n ≤ 64) (hm : D.m ≤ 8) (k0 : 0 ≤ D.k) (k7 : D.k ≤ 7) : ∀ f ∈ okF, f.1.ev (symTab B (D.s1 0 0).vals) = some (.bool f.2) := by
  unfold okF
  refine cons_fact (cmp_ev (k := 4) (n := D.n) rfl ?_) (cons_fact (cmp_ev (k := 7) (n := D.m) rfl ?_) (two_facts (cmp_ev (k := 0) (n := D.k) rfl ?_) (cmp_ev (k := 0) (n := D.k) rfl ?_)))
  · simp only [cmpInt, Option.some.injEq, decide_eq_false_iff_not]; omega
  · simp only [cmpInt, Option.some.injEq, decide_eq_false_iff_not]; omega
  · simp only [cmpInt, Option.some.injEq, decide_eq_false_iff_not]; omega
  · simp only [cmpInt, Option.some.injEq, decide_eq_false_iff_not]; omega
theorem start_sr {W w0 : World} {D : FD} {nt : Nat} {facts : List (Exp × Bool)} (cs : Consts W) (sp : SlOK D.p D.n) (sq : SlOK D.q D.m) (hW : Later W w0) (k : Nat) (hk : 2 + (k - 2) = nt) :
    SR (senv none none false false .off (symTab w0.heap.size (D.s1 0 0).vals) (oldOf W) facts) w0.heap.size none (symTab w0.heap.size (D.s1 0 0).vals) st0 nt
      { tmps := #[D.arg, .int .i64 256] ++ Array.replicate (k - 2) undef, defers := [] } w0 := by
  have one : ∀ {v : Value} {n : Int}, SlOK v n → v.oneCell' = true := by
    rintro v n ⟨a, len, cap, rfl, _⟩
    rfl
  have ha : VRs (symTab w0.heap.size (D.s1 0 0).vals) [.agg sBox, i64 256] [D.arg, .int .i64 256] := by
    simp only [VRs, sBox, FD.arg, VR, i64]
    refine ⟨_, _, rfl, ⟨_, rfl, _, _, rfl, ⟨rfl, rfl⟩, _, _, rfl, ⟨rfl, one sp⟩, _, _, rfl, ⟨rfl, one sq⟩, _, _, rfl, ⟨rfl, rfl⟩, rfl⟩, _, _, rfl, rfl, rfl⟩
  have hf := enterFR ha k []
  refine ⟨Cons.syms (n := 20) rfl (Nat.le_refl 20) (hW.still' cs hW.1), ?_, rfl, Nat.le_refl _, trivial⟩
  rw [← hk]
  exact hf
theorem wpL_mid {P : Program} {id : Nat} {lp : Code} {rest : List Code} {Q : Exit → Act → World → Prop} {a : Act} {w : World}
    (h : wpC P none (.loop lp) lp (Exit.inBlock id (Exit.then (wpL P rest Q) Q)) a w) : wpL P (.block id (.loop lp) :: rest) Q a w :=
  wp_block (loop_done h)
theorem inBlock_exit {id : Nat} {Q : Exit → Act → World → Prop} {a : Act} {w : World} (h : Q .normal a w) : Exit.inBlock id Q (.exit id) a w := by
  simp only [Exit.inBlock, if_true]
  exact h
theorem turn0 {w0 : World} {D : FD} {nt : Nat} {ts : List Nat} {hh : AV → AV → List AV} {la : Code} (O : One nt ts hh la) {a : Act} {w : World} (h : Stand w0 (D.s1 0 0) nt ts (hh (i64 0) (i64 0)) a w) :
    Stand w0 (D.s1 0 (D.cnt 0)) nt ts (hh (.ex (.sym 5)) (.ex (.sym 6))) a w :=
  h.re rfl rfl rfl rfl (O.len _ _ _ _) fun lc j v v' hv hv' x hx => O.turns (fun x hx => cv_zero (k := 5) (by decide) rfl hx) (fun x hx => cv_zero (k := 6) (by decide) rfl hx) (D.s1_turn) j v v' hv hv' x hx
theorem FD.s12_turn (D : FD) {i c j : Nat} : ∀ k, k = 2 ∨ k = 6 ∨ k = 7 → ∃ v, (D.s1 i c).vals[k]? = some v ∧ (D.s2 j c).vals[k]? = some v := by
  intro k hk
  rcases hk with rfl | rfl | rfl
  · exact ⟨_, rfl, rfl⟩
  · exact ⟨_, rfl, rfl⟩
  · exact ⟨_, rfl, rfl⟩
theorem turn1 {w0 : World} {D : FD} {i c nt : Nat} {tm : List Nat} {gg : AV → List AV} {lb : Code} {te : List Nat} {ve : List AV} (O : Two nt tm gg lb te ve) {a : Act} {w : World} (h : Stand w0 (D.s1 i c) nt tm (gg (i64 0)) a w) :
    Stand w0 (D.s2 0 c) nt tm (gg (.ex (.sym 5))) a w :=
  h.re rfl rfl rfl rfl (O.len _ _) fun lc j v v' hv hv' x hx => O.turns (fun x hx => cv_zero (k := 5) (by decide) rfl hx) (D.s12_turn) j v v' hv hv' x hx
theorem ans_bad {D : FD} (h : D.bad) : D.ans = 100 := by unfold FD.ans; rw [if_pos h]
theorem ans_good {D : FD} (h : ¬ D.bad) : D.ans = 0 := by unfold FD.ans; rw [if_neg h]
def Goes (D : FD) (w0 : World) (e : Ending) (w : World) : Prop := e = .returned (.int .i64 D.ans) ∧ RowKit.Below w0.heap.size w0 w
theorem call14 {W w0 : World} {D : FD} (hD : D.OK W) (hW : Later W w0) (hwh : D.wh = true → D.k = 5) : Calls Tryz.prog 18 #[D.arg, .int .i64 256] w0 (Goes D w0) := by
  refine calls_of_wp_marks Tryz.func18 body14_eq (wp_secs _ ?_)
  show wpL Tryz.prog secs14 _ _ _
  rw [secs14_eq, nt14]
  have bad : ∀ {a' : Act} {w' : World}, D.bad → a'.defers = [] → a'.tmps.getD 4 undef = .int .i64 100 → RowKit.Below w0.heap.size w0 w' → bodyPostX Tryz.prog Tryz.f18 (Goes D w0) .ret a' w' := fun hb h1 h2 h3 =>
    leave res14 h1 h2 ⟨by rw [ans_bad hb], h3⟩
  refine wpL_app ?_
  have first : ∀ {facts : List (Exp × Bool)}, (∀ f ∈ facts, f.1.ev (symTab w0.heap.size (D.s1 0 0).vals) = some (.bool f.2)) →
      goesOn ts14 (h14 (i64 0) (i64 0)) .normal (runL (senv none none false false .off (symTab w0.heap.size (D.s1 0 0).vals) (oldOf W) facts) 117 pre14 st0) = true →
      wpL Tryz.prog pre14 (Exit.then (wpL Tryz.prog (.block 0 (.loop la14) :: (mid14 ++ .block 2 (.loop lb14) :: post14)) (bodyPostX Tryz.prog Tryz.f18 (Goes D w0))) (bodyPostX Tryz.prog Tryz.f18 (Goes D w0)))
        { tmps := #[D.arg, .int .i64 256] ++ Array.replicate (117 - #[D.arg, Value.int .i64 256].size) undef, defers := [] } w0 := by
    intro facts hf hgo
    have OK : (senv none none false false .off (symTab w0.heap.size (D.s1 0 0).vals) (oldOf W) facts).OK :=
      senv_ok (fun _ h => by cases h) (fun _ h => by cases h) hD.sp hD.sq (fun h => by cases h) (fun h => by cases h) trivial hf
    refine seg_core OK rfl hgo (start_sr hD.cs hD.sp hD.sq hW 117 rfl) (RowKit.Below.refl _ _) fun a' w' e ρ' xr hst => ?_
    cases e with
    | normal =>
      show wpL Tryz.prog (.block 0 (.loop la14) :: (mid14 ++ .block 2 (.loop lb14) :: post14)) _ a' w'
      refine wpL_mid ?_
      refine loop1 hD hW one14 ?_ ?_ D.n 0 (by omega) (fun j hj => by omega) a' w' (turn0 one14 hst)
      · intro i hi hb a1 w1 h1 h2 h3
        exact bad (.inl ⟨i, hi, hb⟩) h1 h2 h3
      intro hgood a1 w1 hs1
      refine inBlock_exit ?_
      show wpL Tryz.prog (mid14 ++ .block 2 (.loop lb14) :: post14) _ a1 w1
      refine wpL_app ?_
      by_cases hc : 1 < D.cnt D.n
      · have hf : ∀ f ∈ [(numBig, true)], f.1.ev (symTab w0.heap.size (D.s1 D.n (D.cnt D.n)).vals) = some (.bool f.2) := one_fact (cmp_ev (k := 6) (n := D.cnt D.n) rfl (by simp only [cmpInt, Option.some.injEq, decide_eq_true_eq]; omega))
        have OK1 : (senv none none false false .off (symTab w0.heap.size (D.s1 D.n (D.cnt D.n)).vals) (oldOf W) [(numBig, true)]).OK :=
          senv_ok (fun _ h => by cases h) (fun _ h => by cases h) hD.sp hD.sq (fun h => by cases h) (fun h => by cases h) trivial hf
        obtain ⟨ρ, hr⟩ := hs1.sr (g := none) (r := none) (in1 := false) (in2 := false) (cl := .off) (facts := [(numBig, true)]) hD.cs hW
        exact ret_core OK1 (mid14_a _ _) hr hs1.2.2.1 fun a2 w2 h1 h2 h3 => bad (.inr (.inl hc)) h1 h2 h3
      · have hf : ∀ f ∈ [(numBig, false)], f.1.ev (symTab w0.heap.size (D.s1 D.n (D.cnt D.n)).vals) = some (.bool f.2) := one_fact (cmp_ev (k := 6) (n := D.cnt D.n) rfl (by simp only [cmpInt, Option.some.injEq, decide_eq_false_iff_not]; omega))
        have OK1 : (senv none none false false .off (symTab w0.heap.size (D.s1 D.n (D.cnt D.n)).vals) (oldOf W) [(numBig, false)]).OK :=
          senv_ok (fun _ h => by cases h) (fun _ h => by cases h) hD.sp hD.sq (fun h => by cases h) (fun h => by cases h) trivial hf
        obtain ⟨ρ, hr⟩ := hs1.sr (g := none) (r := none) (in1 := false) (in2 := false) (cl := .off) (facts := [(numBig, false)]) hD.cs hW
        refine seg_core OK1 rfl (mid14_b _ _) hr hs1.2.2.1 fun a2 w2 e ρ' xr hst2 => ?_
        cases e with
        | normal =>
          show wpL Tryz.prog (.block 2 (.loop lb14) :: post14) _ a2 w2
          refine wpL_mid ?_
          refine loop2 hD hW two14 ?_ ?_ D.m 0 (by omega) (fun j hj => by omega) a2 w2 (turn1 two14 hst2)
          · intro j hj hb a3 w3 h1 h2 h3
            exact bad (.inr (.inr ⟨j, hj, hb⟩)) h1 h2 h3
          intro hok a3 w3 hs3
          refine inBlock_exit ?_
          show wpL Tryz.prog post14 _ a3 w3
          have OK3 : (senv none none false false .off (symTab w0.heap.size (D.s2 D.m (D.cnt D.n)).vals) (oldOf W) []).OK :=
            senv_ok (fun _ h => by cases h) (fun _ h => by cases h) hD.sp hD.sq (fun h => by cases h) (fun h => by cases h) trivial (fun _ h => by cases h)
          obtain ⟨ρ, hr⟩ := hs3.sr (g := none) (r := none) (in1 := false) (in2 := false) (cl := .off) (facts := []) hD.cs hW
          refine ret_core OK3 (post14_a _ _) hr hs3.2.2.1 fun a4 w4 h1 h2 h3 => leave res14 h1 h2 ⟨?_, h3⟩
          rw [ans_good]
          rintro (⟨i, hi, hb⟩ | hb | ⟨j, hj, hb⟩)
          · rw [hgood i hi] at hb; cases hb
          · exact hc hb
          · rw [hok j hj] at hb; cases hb
        | _ => exact xr.elim
    | _ => exact xr.elim
  have hF := D.s1_facts (B := w0.heap.size) hD.hn hD.hm hD.k0 hD.k7
  cases hw : D.wh with
  | false =>
    refine first (cons_fact ?_ hF) (pre14_g _ _)
    show some (Value.bool D.wh) = _
    rw [hw]
  | true =>
    refine first (cons_fact ?_ (cons_fact (cmp_ev (k := 0) (n := D.k) rfl ?_) hF)) (pre14_f _ _)
    · show some (Value.bool D.wh) = _
      rw [hw]
    · simp only [cmpInt, Option.some.injEq, decide_eq_true_eq]; exact hwh hw
theorem call6 {W w0 : World} {D : FD} (hD : D.OK W) (hW : Later W w0) (hwh : D.wh = true → D.k = 5) : Calls Tryz.prog 25 #[D.arg, .int .i64 256] w0 (Goes D w0) := by
  refine calls_of_wp_marks Tryz.func25 body6_eq (wp_secs _ ?_)
  show wpL Tryz.prog secs6 _ _ _
  rw [secs6_eq, nt6]
  have bad : ∀ {a' : Act} {w' : World}, D.bad → a'.defers = [] → a'.tmps.getD 4 undef = .int .i64 100 → RowKit.Below w0.heap.size w0 w' → bodyPostX Tryz.prog Tryz.f25 (Goes D w0) .ret a' w' := fun hb h1 h2 h3 =>
    leave res6 h1 h2 ⟨by rw [ans_bad hb], h3⟩
  refine wpL_app ?_
  have first : ∀ {facts : List (Exp × Bool)}, (∀ f ∈ facts, f.1.ev (symTab w0.heap.size (D.s1 0 0).vals) = some (.bool f.2)) →
      goesOn ts6 (h6 (i64 0) (i64 0)) .normal (runL (senv none none false false .off (symTab w0.heap.size (D.s1 0 0).vals) (oldOf W) facts) 122 pre6 st0) = true →
      wpL Tryz.prog pre6 (Exit.then (wpL Tryz.prog (.block 0 (.loop la6) :: (mid6 ++ .block 2 (.loop lb6) :: post6)) (bodyPostX Tryz.prog Tryz.f25 (Goes D w0))) (bodyPostX Tryz.prog Tryz.f25 (Goes D w0)))
        { tmps := #[D.arg, .int .i64 256] ++ Array.replicate (122 - #[D.arg, Value.int .i64 256].size) undef, defers := [] } w0 := by
    intro facts hf hgo
    have OK : (senv none none false false .off (symTab w0.heap.size (D.s1 0 0).vals) (oldOf W) facts).OK :=
      senv_ok (fun _ h => by cases h) (fun _ h => by cases h) hD.sp hD.sq (fun h => by cases h) (fun h => by cases h) trivial hf
    refine seg_core OK rfl hgo (start_sr hD.cs hD.sp hD.sq hW 122 rfl) (RowKit.Below.refl _ _) fun a' w' e ρ' xr hst => ?_
    cases e with
    | normal =>
      show wpL Tryz.prog (.block 0 (.loop la6) :: (mid6 ++ .block 2 (.loop lb6) :: post6)) _ a' w'
      refine wpL_mid ?_
      refine loop1 hD hW one6 ?_ ?_ D.n 0 (by omega) (fun j hj => by omega) a' w' (turn0 one6 hst)
      · intro i hi hb a1 w1 h1 h2 h3
        exact bad (.inl ⟨i, hi, hb⟩) h1 h2 h3
      intro hgood a1 w1 hs1
      refine inBlock_exit ?_
      show wpL Tryz.prog (mid6 ++ .block 2 (.loop lb6) :: post6) _ a1 w1
      refine wpL_app ?_
      have OK1 : (senv none none false false .off (symTab w0.heap.size (D.s1 D.n (D.cnt D.n)).vals) (oldOf W) []).OK :=
        senv_ok (fun _ h => by cases h) (fun _ h => by cases h) hD.sp hD.sq (fun h => by cases h) (fun h => by cases h) trivial (fun _ h => by cases h)
      obtain ⟨ρ, hr⟩ := hs1.sr (g := none) (r := none) (in1 := false) (in2 := false) (cl := .off) (facts := []) hD.cs hW
      refine seg_core OK1 rfl (mid6_a _ _) hr hs1.2.2.1 fun a2 w2 e ρ' xr hst2 => ?_
      cases e with
      | normal =>
        show wpL Tryz.prog (.block 2 (.loop lb6) :: post6) _ a2 w2
        refine wpL_mid ?_
        refine loop2 hD hW two6 ?_ ?_ D.m 0 (by omega) (fun j hj => by omega) a2 w2 (turn1 two6 hst2)
        · intro j hj hb a3 w3 h1 h2 h3
          exact bad (.inr (.inr ⟨j, hj, hb⟩)) h1 h2 h3
        intro hok a3 w3 hs3
        refine inBlock_exit ?_
        show wpL Tryz.prog post6 _ a3 w3
        by_cases hc : 1 < D.cnt D.n
        · have hf : ∀ f ∈ [(numBig, true)], f.1.ev (symTab w0.heap.size (D.s2 D.m (D.cnt D.n)).vals) = some (.bool f.2) := one_fact (cmp_ev (k := 6) (n := D.cnt D.n) rfl (by simp only [cmpInt, Option.some.injEq, decide_eq_true_eq]; omega))
          have OK3 : (senv none none false false .off (symTab w0.heap.size (D.s2 D.m (D.cnt D.n)).vals) (oldOf W) [(numBig, true)]).OK :=
            senv_ok (fun _ h => by cases h) (fun _ h => by cases h) hD.sp hD.sq (fun h => by cases h) (fun h => by cases h) trivial hf
          obtain ⟨ρ, hr⟩ := hs3.sr (g := none) (r := none) (in1 := false) (in2 := false) (cl := .off) (facts := [(numBig, true)]) hD.cs hW
          exact ret_core OK3 (post6_a _ _) hr hs3.2.2.1 fun a4 w4 h1 h2 h3 => bad (.inr (.inl hc)) h1 h2 h3
        · have hf : ∀ f ∈ [(numBig, false)], f.1.ev (symTab w0.heap.size (D.s2 D.m (D.cnt D.n)).vals) = some (.bool f.2) := one_fact (cmp_ev (k := 6) (n := D.cnt D.n) rfl (by simp only [cmpInt, Option.some.injEq, decide_eq_false_iff_not]; omega))
          have OK3 : (senv none none false false .off (symTab w0.heap.size (D.s2 D.m (D.cnt D.n)).vals) (oldOf W) [(numBig, false)]).OK :=
            senv_ok (fun _ h => by cases h) (fun _ h => by cases h) hD.sp hD.sq (fun h => by cases h) (fun h => by cases h) trivial hf
          obtain ⟨ρ, hr⟩ := hs3.sr (g := none) (r := none) (in1 := false) (in2 := false) (cl := .off) (facts := [(numBig, false)]) hD.cs hW
          refine ret_core OK3 (post6_b _ _) hr hs3.2.2.1 fun a4 w4 h1 h2 h3 => leave res6 h1 h2 ⟨?_, h3⟩
          rw [ans_good]
          rintro (⟨i, hi, hb⟩ | hb | ⟨j, hj, hb⟩)
          · rw [hgood i hi] at hb; cases hb
          · exact hc hb
          · rw [hok j hj] at hb; cases hb
      | _ => exact xr.elim
    | _ => exact xr.elim
  have hF := D.s1_facts (B := w0.heap.size) hD.hn hD.hm hD.k0 hD.k7
  cases hw : D.wh with
  | false =>
    refine first (cons_fact ?_ hF) (pre6_g _ _)
    show some (Value.bool D.wh) = _
    rw [hw]
  | true =>
    refine first (cons_fact ?_ (cons_fact (cmp_ev (k := 0) (n := D.k) rfl ?_) hF)) (pre6_f _ _)
    · show some (Value.bool D.wh) = _
      rw [hw]
    · simp only [cmpInt, Option.some.injEq, decide_eq_true_eq]; exact hwh hw
end Go.Proofs.YtkeibmkcgnppeaaGreatDoor.Ck
namespace Go.Proofs.YtkeibmkcgnppeaaGreatDoor.Ck
open Go Go.Proofs.YtkeibmkcgnppeaaGreatDoor.Rx
set_option maxRecDepth 100000
def AnsBoth (W : World) (arg : Value) (c : Int) : Prop :=
  ∀ w0, Later W w0 → Calls Tryz.prog 18 #[arg, .int .i64 256] w0 (fun e w => e = .returned (.int .i64 c) ∧ RowKit.Below w0.heap.size w0 w) ∧
    Calls Tryz.prog 25 #[arg, .int .i64 256] w0 (fun e w => e = .returned (.int .i64 c) ∧ RowKit.Below w0.heap.size w0 w)
theorem early {W : World} {D : FD} {c : Int} (cs : Consts W) (sp : SlOK D.p D.n) (sq : SlOK D.q D.m) {facts : List (Exp × Bool)} (hf : ∀ B, ∀ f ∈ facts, f.1.ev (symTab B (D.s1 0 0).vals) = some (.bool f.2))
    (h14 : ∀ sy old, rets c (runL (senv none none false false .off sy old facts) 117 pre14 st0) = true) (h6 : ∀ sy old, rets c (runL (senv none none false false .off sy old facts) 122 pre6 st0) = true) : AnsBoth W D.arg c := by
  intro w0 hW
  have OK : (senv none none false false .off (symTab w0.heap.size (D.s1 0 0).vals) (oldOf W) facts).OK :=
    senv_ok (fun _ h => by cases h) (fun _ h => by cases h) sp sq (fun h => by cases h) (fun h => by cases h) trivial (hf _)
  refine ⟨calls_of_wp_marks Tryz.func18 body14_eq (wp_secs _ ?_), calls_of_wp_marks Tryz.func25 body6_eq (wp_secs _ ?_)⟩
  · show wpL Tryz.prog secs14 _ _ _
    rw [secs14_eq, nt14]
    exact wpL_app (ret_core OK (h14 _ _) (start_sr cs sp sq hW 117 rfl) (RowKit.Below.refl _ _) fun a w h1 h2 h3 => leave res14 h1 h2 ⟨rfl, h3⟩)
  · show wpL Tryz.prog secs6 _ _ _
    rw [secs6_eq, nt6]
    exact wpL_app (ret_core OK (h6 _ _) (start_sr cs sp sq hW 122 rfl) (RowKit.Below.refl _ _) fun a w h1 h2 h3 => leave res6 h1 h2 ⟨rfl, h3⟩)
theorem both {W : World} {D : FD} (cs : Consts W) (sp : SlOK D.p D.n) (sq : SlOK D.q D.m) (hD : D.n ≤ 64 → D.m ≤ 8 → 0 ≤ D.k → D.k ≤ 7 → D.OK W) : (AnsBoth W D.arg 0 ∧ D.OK W ∧ (D.wh = true → D.k = 5) ∧ ¬ D.bad) ∨ AnsBoth W D.arg 3 ∨ AnsBoth W D.arg 100 := by
  have num : ∀ (B : Nat) (k : Nat) (n : Int) (o : BinOp) (c : Int) (t : Bool), (D.s1 0 0).vals[k]? = some (.int .i64 n) → cmpInt o n c = some t → (cmpL o k c).ev (symTab B (D.s1 0 0).vals) = some (.bool t) := fun B k n o c t h h' => cmp_ev h h'
  by_cases hn : 64 < D.n
  · exact .inr (.inl (early cs sp sq (fun B => one_fact (num B 4 D.n _ _ _ rfl (by simp only [cmpInt, Option.some.injEq, decide_eq_true_eq]; omega))) pre14_a pre6_a))
  have fn : ∀ B, nBig.ev (symTab B (D.s1 0 0).vals) = some (.bool false) := fun B => num B 4 D.n _ _ _ rfl (by simp only [cmpInt, Option.some.injEq, decide_eq_false_iff_not]; omega)
  by_cases hm : 8 < D.m
  · exact .inr (.inl (early cs sp sq (fun B => two_facts (fn B) (num B 7 D.m _ _ _ rfl (by simp only [cmpInt, Option.some.injEq, decide_eq_true_eq]; omega))) pre14_b pre6_b))
  have fm : ∀ B, mBig.ev (symTab B (D.s1 0 0).vals) = some (.bool false) := fun B => num B 7 D.m _ _ _ rfl (by simp only [cmpInt, Option.some.injEq, decide_eq_false_iff_not]; omega)
  by_cases h0 : D.k < 0
  · exact .inr (.inr (early cs sp sq (fun B => cons_fact (fn B) (two_facts (fm B) (num B 0 D.k _ _ _ rfl (by simp only [cmpInt, Option.some.injEq, decide_eq_true_eq]; omega)))) pre14_c pre6_c))
  have f0 : ∀ B, kNeg.ev (symTab B (D.s1 0 0).vals) = some (.bool false) := fun B => num B 0 D.k _ _ _ rfl (by simp only [cmpInt, Option.some.injEq, decide_eq_false_iff_not]; omega)
  by_cases h7 : 7 < D.k
  · exact .inr (.inr (early cs sp sq (fun B => cons_fact (fn B) (cons_fact (fm B) (two_facts (f0 B) (num B 0 D.k _ _ _ rfl (by simp only [cmpInt, Option.some.injEq, decide_eq_true_eq]; omega))))) pre14_d pre6_d))
  by_cases hw : D.wh = true ∧ D.k ≠ 5
  · refine .inr (.inr (early cs sp sq (fun B => cons_fact ?_ (cons_fact (num B 0 D.k _ _ _ rfl (by simp only [cmpInt, Option.some.injEq, decide_eq_false_iff_not]; exact hw.2)) (D.s1_facts (by omega) (by omega) (by omega) (by omega)))) pre14_e pre6_e))
    show some (Value.bool D.wh) = _
    rw [hw.1]
  have OK := hD (by omega) (by omega) (by omega) (by omega)
  have hwh : D.wh = true → D.k = 5 := fun h => by
    by_cases h5 : D.k = 5
    · exact h5
    · exact absurd ⟨h, h5⟩ hw
  have fin : AnsBoth W D.arg D.ans := fun w0 hW => ⟨call14 OK hW hwh, call6 OK hW hwh⟩
  by_cases hb : D.bad
  · rw [ans_bad hb] at fin; exact .inr (.inr fin)
  · rw [ans_good hb] at fin; exact .inl ⟨fin, OK, hwh, hb⟩
end Go.Proofs.YtkeibmkcgnppeaaGreatDoor.Ck
namespace Go.Proofs.YtkeibmkcgnppeaaGreatDoor.Ck
open Go Go.Proofs.YtkeibmkcgnppeaaGreatDoor.Rx
set_option maxRecDepth 100000
def fvals (v : Nat) : List Value := [.float .f64 v, .int .u64 v, .float .f64 (v % 9223372036854775808)]
def ftys : T Ty := T.ofList [.flt .f64, .int .u64, .flt .f64]
def isFn (f : Nat) : AV → Bool
  | .lit (.func (.func h) a b) => Nat.beq h f && a.toList.isEmpty && b.toList.isEmpty
  | _ => false
theorem isFn_ok {f : Nat} {a : AV} {ρ : Rx.Place} {x : Value} (h : isFn f a = true) (hx : VR ρ a x) : x = .func (.func f) #[] #[] := by
  unfold isFn at h
  split at h
  · simp only [Bool.and_eq_true, List.isEmpty_iff] at h
    obtain ⟨⟨h1, h2⟩, h3⟩ := h
    have h1 := Nat.eq_of_beq_eq_true h1
    have h2 := Array.toList_eq_nil_iff.1 h2
    have h3 := Array.toList_eq_nil_iff.1 h3
    subst h1 h2 h3
    simpa only [VR] using hx
  · cases h
def fopc (op : Op) (g : Operand → AV) : Option AV :=
  match op with
  | .call c => match c.callee with
    | .value (.func f) => match c.args.toList with
      | [x] => match g x with
        | .ex (.sym k) => match Nat.beq f 87 && Nat.beq k 0 && isFn f (g (.func f)) with
          | true => some (.ex (.sym 1))
          | false => none
        | .ex (.bin o (.sym k) (.lit v)) => match Nat.beq f 135 && Nat.beq k 1 && decide (o = .andNot) && litSame v (.int .u64 9223372036854775808) && isFn f (g (.func f)) with
          | true => some (.ex (.sym 2))
          | false => none
        | _ => none
      | _ => none
    | _ => none
  | _ => none
noncomputable def fenv (sy : Rx.Place) (old : Nat → Option (Option Obj)) (facts : List (Exp × Bool)) : Env := env.plus (fun _ _ => none) fopc (fun _ _ => none) sy old ftys facts
def notSelf : Exp := .bin .neq (.sym 0) (.sym 0)
def beyond : Exp := .bin .gtr (.sym 2) (.lit (.float .f64 9218868437227405311))
def isB (b : Bool) : Option Value → Bool
  | some (.bool x) => decide (x = b)
  | _ => false
theorem isB_ok {b : Bool} {o : Option Value} (h : isB b o = true) : o = some (.bool b) := by
  unfold isB at h
  split at h
  · rw [of_decide_eq_true h]
  · cases h
section
variable (sy : Rx.Place) (old : Nat → Option (Option Obj))
theorem nan_t : isB true (ans (eval (fenv sy old [(notSelf, true)]) 200 (.call (.fn 42) [.ex (.sym 0)] ⟨4, .leaf⟩))) = true := by as_aux_lemma => kernel_rfl
theorem nan_f : isB false (ans (eval (fenv sy old [(notSelf, false)]) 200 (.call (.fn 42) [.ex (.sym 0)] ⟨4, .leaf⟩))) = true := by as_aux_lemma => kernel_rfl
theorem inf_f : isB false (ans (eval (fenv sy old [(beyond, false)]) 200 (.call (.fn 43) [.ex (.sym 0), .lit (.int .i64 0)] ⟨4, .leaf⟩))) = true := by as_aux_lemma => kernel_rfl
end
theorem ftys_ok {b : Nat} {v : Nat} : ∀ i t, ftys.get i = some t → ∃ lc, symTab b (fvals v) i = some lc ∧ hasTy lc.val t = true := by
  intro i t h
  unfold ftys at h
  rw [T.get_ofList] at h
  match i, h with
  | 0, h | 1, h | 2, h =>
    simp at h
    subst h
    exact ⟨_, rfl, rfl⟩
  | i + 3, h => simp at h
theorem ext72 : env.ext.get 87 = some 1 := by kernel_rfl
theorem ext120 : env.ext.get 135 = some 2 := by kernel_rfl
theorem fenv_ok {W : World} {B v : Nat} {facts : List (Exp × Bool)} (hf : ∀ f ∈ facts, f.1.ev (symTab B (fvals v)) = some (.bool f.2)) : (fenv (symTab B (fvals v)) (oldOf W) facts).OK := by
  refine env_ok.plus (fun _ _ _ h => by cases h) ?_ (fun _ _ _ h => by cases h) ftys_ok hf
  intro op g u hu base ρ w e hst hle hx o ho
  cases op with
  | call c =>
    simp only [fopc] at hu
    split at hu
    · rename_i f hcal
      split at hu
      · rename_i x hargs
        have harr : c.args.map e = #[e x] := Array.ext' (by rw [Array.toList_map, hargs]; rfl)
        split at hu
        · rename_i k hgx
          split at hu
          · rename_i hb
            simp only [Bool.and_eq_true] at hb
            have h1 := Nat.eq_of_beq_eq_true hb.1.1
            have h2 := Nat.eq_of_beq_eq_true hb.1.2
            have h5 := isFn_ok hb.2 (hx _)
            subst h1 h2
            simp only [Option.some.injEq] at hu
            subst hu
            have hex := ex_val hle (k := 0) (v := .float .f64 v) rfl (by rw [← hgx]; exact hx x)
            refine ⟨.int .u64 v, ?_, ex_VR hle (k := 1) rfl rfl⟩
            rw [exec_func ho hcal h5, env_ok.ext 87 1 ext72, harr, hex]
            rfl
          · cases hu
        · rename_i o' k v' hgx
          split at hu
          · rename_i hb
            simp only [Bool.and_eq_true] at hb
            have h1 := Nat.eq_of_beq_eq_true hb.1.1.1.1
            have h2 := Nat.eq_of_beq_eq_true hb.1.1.1.2
            have h3 := of_decide_eq_true hb.1.1.2
            have h4 := litSame_ok hb.1.2
            have h5 := isFn_ok hb.2 (hx _)
            subst h1 h2 h3 h4
            simp only [Option.some.injEq] at hu
            subst hu
            have h0 := hx x
            rw [hgx] at h0
            simp only [VR] at h0
            have he : (Exp.bin .andNot (.sym 1) (.lit (.int .u64 9223372036854775808))).ev (symTab B (fvals v)) = some (.int .u64 (v % 9223372036854775808 : Nat)) := by
              show evBin .andNot (.int .u64 v) (.int .u64 9223372036854775808) = _
              exact abs_bits v
            have he2 := Exp.ev_mono hle he
            rw [h0.1, Option.some.injEq] at he2
            refine ⟨.float .f64 (v % 9223372036854775808), ?_, ex_VR hle (k := 2) rfl rfl⟩
            rw [exec_func ho hcal h5, env_ok.ext 135 2 ext120, harr, he2]
            rfl
          · cases hu
        · cases hu
      · cases hu
    · cases hu
  | _ => cases hu
theorem says_nan {W : World} (cs : Consts W) {v : Nat} {b : Bool} (h : (FloatKind.f64.format.order v v != some .eq) = b) : Says W 42 #[.float .f64 v] b := by
  intro w hw
  have hf : ∀ B, notSelf.ev (symTab B (fvals v)) = some (.bool b) := fun B => by
    show evBin .neq (.float .f64 v) (.float .f64 v) = _
    simp [evBin, Go.binOp, Op.floatCmp, pure, pure0, h]
  have hv : VRs (symTab W.heap.size (fvals v)) [.ex (.sym 0)] [.float .f64 v] := by
    simp only [VRs, VR]
    exact ⟨_, _, rfl, ⟨rfl, rfl⟩, rfl⟩
  cases b with
  | true => exact sym_call (fenv_ok (W := W) (one_fact (hf _))) (isB_ok (nan_t _ _)) w rfl hw.1 (show 3 ≤ 4 by decide) (hw.still cs) hv
  | false => exact sym_call (fenv_ok (W := W) (one_fact (hf _))) (isB_ok (nan_f _ _)) w rfl hw.1 (show 3 ≤ 4 by decide) (hw.still cs) hv
theorem says_inf {W : World} (cs : Consts W) {v : Nat} (h : FloatKind.f64.format.order (v % 9223372036854775808) 9218868437227405311 ≠ some .gt) : Says W 43 #[.float .f64 v, .int .i64 0] false := by
  intro w hw
  have hf : ∀ B, beyond.ev (symTab B (fvals v)) = some (.bool false) := fun B => by
    show evBin .gtr (.float .f64 (v % 9223372036854775808)) (.float .f64 9218868437227405311) = _
    have : (FloatKind.f64.format.order (v % 9223372036854775808) 9218868437227405311 == some .gt) = false := by
      rw [beq_eq_false_iff_ne]; exact h
    simp [evBin, Go.binOp, Op.floatCmp, pure, pure0, this]
  have hv : VRs (symTab W.heap.size (fvals v)) [.ex (.sym 0), .lit (.int .i64 0)] [.float .f64 v, .int .i64 0] := by
    simp only [VRs, VR]
    exact ⟨_, _, rfl, ⟨rfl, rfl⟩, _, _, rfl, rfl, rfl⟩
  exact sym_call (fenv_ok (W := W) (one_fact (hf _))) (isB_ok (inf_f _ _)) w rfl hw.1 (show 3 ≤ 4 by decide) (hw.still cs) hv
end Go.Proofs.YtkeibmkcgnppeaaGreatDoor.Ck
namespace Go.Proofs.YtkeibmkcgnppeaaGreatDoor.Ck
open Go Go.Proofs.YtkeibmkcgnppeaaGreatDoor.Rx
set_option maxRecDepth 100000
theorem ev_base {b b' : Nat} {l : List Value} : ∀ e : Exp, e.ev (symTab b l) = e.ev (symTab b' l)
  | .sym k => by
    cases h : l[k]? <;> simp only [Exp.ev, symTab, h]
  | .lit _ => rfl
  | .bin o x y => by simp only [Exp.ev, ev_base (b := b) (b' := b') x, ev_base (b := b) (b' := b') y]
  | .not x => by simp only [Exp.ev, ev_base (b := b) (b' := b') x]
  | .len x => by simp only [Exp.ev, ev_base (b := b) (b' := b') x]
def opOK (σ : Rx.Place) : Prop := (cmpL .lss 17 18).ev σ = some (.bool false) ∧ (cmpL .gtr 17 23).ev σ = some (.bool false)
theorem node_ok {e : Exp} {t f : DB} {E : Env} {chk : Bool → Env → Bool} {fs : List (Exp × Bool)} (h : DB.ok E chk (.node e t f) fs = true) : tyOf E.tys e = some .bool ∧ t.ok E chk ((e, true) :: fs) = true ∧ f.ok E chk ((e, false) :: fs) = true := by
  simp only [DB.ok] at h
  split at h
  · rename_i hb
    split at h
    · rename_i ht
      exact ⟨hb, ht, h⟩
    · cases h
  · cases h
theorem split_ok {S : Sy} {cl : Cl} {e : Exp} {t f : DB} {fs : List (Exp × Bool)} (h : ∀ sy old, DB.ok (senv none none false true cl sy old []) chkM (.node e t f) fs = true) (hf : ∀ x ∈ fs, x.1.ev (symTab 0 S.vals) = some (.bool x.2)) :
    (e.ev (symTab 0 S.vals) = some (.bool true) ∧ (∀ sy old, t.ok (senv none none false true cl sy old []) chkM ((e, true) :: fs) = true) ∧ ∀ x ∈ (e, true) :: fs, x.1.ev (symTab 0 S.vals) = some (.bool x.2)) ∨
    (e.ev (symTab 0 S.vals) = some (.bool false) ∧ (∀ sy old, f.ok (senv none none false true cl sy old []) chkM ((e, false) :: fs) = true) ∧ ∀ x ∈ (e, false) :: fs, x.1.ev (symTab 0 S.vals) = some (.bool x.2)) := by
  have hb := (node_ok (h default default)).1
  obtain ⟨v, hv, hty⟩ := tyOf_ok (ts := stys) (stys_ok (b := 0) (S := S)) e .bool hb
  obtain ⟨b, rfl⟩ := hasTy_bool hty
  cases b with
  | true => exact .inl ⟨hv, fun sy old => (node_ok (h sy old)).2.1, cons_fact hv hf⟩
  | false => exact .inr ⟨hv, fun sy old => (node_ok (h sy old)).2.2, cons_fact hv hf⟩
theorem map_fin' {W : World} {S : Sy} {cl : Cl} {r0 : Bool} {fs : List (Exp × Bool)} (hcl : ClOK W S.vl cl) (hd : ∀ sy old, (mTree r0).ok (senv none none false true cl sy old []) chkM fs = true) (hf : ∀ f ∈ fs, f.1.ev (symTab 0 S.vals) = some (.bool f.2))
    {K : Prop} (hK : r0 = false → K) :
    ∃ r cl fs, ClOK W S.vl cl ∧ (∀ b, ∀ f ∈ fs, f.1.ev (symTab b S.vals) = some (.bool f.2)) ∧ (∀ sy old, chkM r (senv none none false true cl sy old fs) = true) ∧ (r = false → opOK (symTab 0 S.vals) ∧ K) := by
  have fin : ∀ {r : Bool} {fs : List (Exp × Bool)}, (∀ sy old, DB.ok (senv none none false true cl sy old []) chkM (.leaf r) fs = true) → (∀ x ∈ fs, x.1.ev (symTab 0 S.vals) = some (.bool x.2)) → (r = false → opOK (symTab 0 S.vals) ∧ K) →
      ∃ r cl fs, ClOK W S.vl cl ∧ (∀ b, ∀ f ∈ fs, f.1.ev (symTab b S.vals) = some (.bool f.2)) ∧ (∀ sy old, chkM r (senv none none false true cl sy old fs) = true) ∧ (r = false → opOK (symTab 0 S.vals) ∧ K) := fun h1 h2 h3 =>
    ⟨_, cl, _, hcl, fun b f hm => by rw [ev_base (b := b) (b' := 0)]; exact h2 f hm, fun sy old => h1 sy old, h3⟩
  rcases split_ok hd hf with ⟨e1, h1, f1⟩ | ⟨e1, h1, f1⟩
  · exact fin h1 f1 fun h => by cases h
  rcases split_ok h1 f1 with ⟨e2, h2, f2⟩ | ⟨e2, h2, f2⟩
  · exact fin h2 f2 fun h => by cases h
  rcases split_ok h2 f2 with ⟨e3, h3, f3⟩ | ⟨e3, h3, f3⟩
  · exact fin h3 f3 fun h => by cases h
  rcases split_ok h3 f3 with ⟨e4, h4, f4⟩ | ⟨e4, h4, f4⟩
  · exact fin h4 f4 fun h => by cases h
  · exact fin h4 f4 fun h => ⟨⟨e1, e2⟩, hK h⟩
theorem map_any {W : World} {S : Sy} (cs : Consts W) (hlt : S.i < S.m) (hv : S.vl < 18446744073709551616) :
    ∃ r cl fs, ClOK W S.vl cl ∧ (∀ b, ∀ f ∈ fs, f.1.ev (symTab b S.vals) = some (.bool f.2)) ∧ (∀ sy old, chkM r (senv none none false true cl sy old fs) = true) ∧ (r = false → opOK (symTab 0 S.vals) ∧ S.vl % 9223372036854775808 < 9218868437227405312) := by
  have hm : more2.ev (symTab 0 S.vals) = some (.bool true) := by
    have := less_ev (B := 0) (l := S.vals) (j := 5) (k := 7) (n := S.i) (m := S.m) rfl rfl
    rw [decide_eq_true hlt] at this
    exact this
  have fin : ∀ {s : Bool} {m : Nat} {i : Int}, Ieee.double.read S.vl = .number s m i → m ≠ 0 → S.vl % 9223372036854775808 < 9218868437227405312 → FloatKind.f64.format.order (S.vl % 9223372036854775808) 9218868437227405311 ≠ some .gt →
      ∃ r cl fs, ClOK W S.vl cl ∧ (∀ b, ∀ f ∈ fs, f.1.ev (symTab b S.vals) = some (.bool f.2)) ∧ (∀ sy old, chkM r (senv none none false true cl sy old fs) = true) ∧ (r = false → opOK (symTab 0 S.vals) ∧ S.vl % 9223372036854775808 < 9218868437227405312) := by
    intro s m i hr h0 hv64 hi
    refine map_fin' (cl := .fin) ⟨sub_fin hr, says_nan cs (by rw [order_self hr]; rfl), says_inf cs hi⟩ map_fin (two_facts ?_ hm) (fun _ => hv64)
    show evBin .eql (.float .f64 S.vl) (.float .f64 0) = _
    have : (FloatKind.f64.format.order S.vl 0 == some .eq) = false := by
      rw [beq_eq_false_iff_ne]; exact order_nought hr h0
    simp [evBin, Go.binOp, Op.floatCmp, pure, pure0, this]
  have hmax : Ieee.double.read 9218868437227405311 = .number false 9007199254740991 971 := by rw [read64]; rfl
  have hr := read64 S.vl
  by_cases c1 : S.vl % 9223372036854775808 < 4503599627370496
  · rw [if_pos c1] at hr
    by_cases c0 : S.vl % 9223372036854775808 = 0
    · have : S.vl = 0 ∨ S.vl = 9223372036854775808 := by omega
      rcases this with h | h
      · exact map_fin' (cl := .lit 0) h map_zero (one_fact hm) (fun _ => by omega)
      · exact map_fin' (cl := .lit 9223372036854775808) h map_nzero (one_fact hm) (fun h => by cases h)
    · refine fin hr c0 (by omega) (order_fin (m := S.vl % 9223372036854775808) (n := 9007199254740991) (i := -1074) (j := 971) ?_ hmax (by omega) (by omega))
      rw [read64, Nat.mod_mod, if_pos c1]
      congr 1
      simp [Nat.div_eq_of_lt (Nat.mod_lt S.vl (show 0 < 9223372036854775808 by decide))]
  · rw [if_neg c1] at hr
    by_cases c2 : S.vl % 9223372036854775808 < 9218868437227405312
    · rw [if_pos c2] at hr
      refine fin hr (by omega) (by omega) (order_fin (m := 4503599627370496 + S.vl % 9223372036854775808 % 4503599627370496) (n := 9007199254740991) (i := -1074 + ((S.vl % 9223372036854775808 / 4503599627370496 - 1 : Nat) : Int)) (j := 971) ?_ hmax (by omega) (by omega))
      rw [read64, Nat.mod_mod, if_neg c1, if_pos c2]
      congr 1
      simp [Nat.div_eq_of_lt (Nat.mod_lt S.vl (show 0 < 9223372036854775808 by decide))]
    · rw [if_neg c2] at hr
      by_cases c3 : S.vl % 9223372036854775808 = 9218868437227405312
      · have : S.vl = 9218868437227405312 ∨ S.vl = 18442240474082181120 := by omega
        rcases this with h | h
        · exact map_fin' (cl := .lit 9218868437227405312) h map_inf (one_fact hm) (fun h => by cases h)
        · exact map_fin' (cl := .lit 18442240474082181120) h map_ninf (one_fact hm) (fun h => by cases h)
      · rw [if_neg c3] at hr
        refine map_fin' (cl := .nan) ⟨order_nan (by omega), ?_, says_nan cs (by rw [order_nan (by omega)]; rfl)⟩ map_nan (one_fact hm) (fun h => by cases h)
        show ((Ieee.double.read S.vl).sum (Ieee.double.read S.vl).opposite).map Ieee.double.write = none
        rw [hr]
        rfl
end Go.Proofs.YtkeibmkcgnppeaaGreatDoor.Ck
namespace Go.Proofs.YtkeibmkcgnppeaaGreatDoor.Ck
open Go Go.Proofs.YtkeibmkcgnppeaaGreatDoor.Rx Go.ChangeShapes Go.WideShapes Go.ChangeAt Go.RowKit
set_option maxRecDepth 100000
theorem cells80 : Tryz.prog.cellsOf 67 = 7 := by kernel_rfl
theorem cells3 : Tryz.prog.cellsOf 3 = 1 := by kernel_rfl
theorem cells9 : Tryz.prog.cellsOf 9 = 1 := by kernel_rfl
theorem cells4 : Tryz.prog.cellsOf 4 = 1 := by kernel_rfl
theorem cells84 : Tryz.prog.cellsOf 71 = 3 := by kernel_rfl
theorem cells28 : Tryz.prog.cellsOf 22 = 1 := by kernel_rfl
def In64 (n : Int) : Prop := -9223372036854775808 ≤ n ∧ n ≤ 9223372036854775807
theorem in64 {n : Int} (h : (Lit.int .i64 n).wf = true) : In64 n := by
  simp only [Lit.wf, Bool.and_eq_true, decide_eq_true_eq] at h
  have h0 : IntKind.i64.min = -9223372036854775808 := rfl
  have h1 : IntKind.i64.max = 9223372036854775807 := rfl
  rw [h0, h1] at h
  exact h
theorem open_piece {H : Type} {enc : TypeId × Value → H} {W : World} {base : Nat} {sp : Nat → Bool} {held : Bool} {k : Nat} {cs : List Value} {x : DataW H × List MemPlace} (h : DataW.trod enc Tryz.prog W base sp held k 67 cs = some x) :
    ∃ kd tx mn pl ex gr lo, cs = [.int .i64 kd, .string tx, .int .i64 mn, .int .i64 pl, .int .i64 ex, .bool gr, .bool lo] ∧ tx.size ≤ maxLen ∧ In64 mn ∧ In64 pl ∧ In64 ex := by
  obtain ⟨xs, n, _, rfl, hl, hlen, hf⟩ := DataW.trod_struct Tryz.underlying67 h
  rw [cells80] at hl
  match cs, hl with
  | [c0, c1, c2, c3, c4, c5, c6], _ =>
    match xs, hlen with
    | [y0, y1, y2, y3, y4, y5, y6], _ =>
      have h0 : DataW.trod enc Tryz.prog W base sp held n 3 [c0] = some y0 := by have := hf 0 _ rfl; simpa [cells3] using this
      have h1 : DataW.trod enc Tryz.prog W base sp held n 9 [c1] = some y1 := by have := hf 1 _ rfl; simpa [cells9] using this
      have h2 : DataW.trod enc Tryz.prog W base sp held n 3 [c2] = some y2 := by have := hf 2 _ rfl; simpa [cells3] using this
      have h3 : DataW.trod enc Tryz.prog W base sp held n 3 [c3] = some y3 := by have := hf 3 _ rfl; simpa [cells3] using this
      have h4 : DataW.trod enc Tryz.prog W base sp held n 3 [c4] = some y4 := by have := hf 4 _ rfl; simpa [cells3] using this
      have h5 : DataW.trod enc Tryz.prog W base sp held n 4 [c5] = some y5 := by have := hf 5 _ rfl; simpa [cells4] using this
      have h6 : DataW.trod enc Tryz.prog W base sp held n 4 [c6] = some y6 := by have := hf 6 _ rfl; simpa [cells4] using this
      obtain ⟨kd, e0, _, _⟩ := DataW.trod_int Tryz.underlying3 h0
      obtain ⟨tx, e1, _, hs⟩ := DataW.trod_string Tryz.underlying9 h1
      obtain ⟨mn, e2, _, w2⟩ := DataW.trod_int Tryz.underlying3 h2
      obtain ⟨pl, e3, _, w3⟩ := DataW.trod_int Tryz.underlying3 h3
      obtain ⟨ex, e4, _, w4⟩ := DataW.trod_int Tryz.underlying3 h4
      obtain ⟨gr, e5, _⟩ := DataW.trod_bool Tryz.underlying4 h5
      obtain ⟨lo, e6, _⟩ := DataW.trod_bool Tryz.underlying4 h6
      simp only [List.cons.injEq, and_true] at e0 e1 e2 e3 e4 e5 e6
      subst e0 e1 e2 e3 e4 e5 e6
      exact ⟨kd, tx, mn, pl, ex, gr, lo, rfl, hs, in64 w2, in64 w3, in64 w4⟩
theorem trod_float {H : Type} {enc : TypeId × Value → H} {P : Program} {w : World} {base : Nat} {spare : Nat → Bool} {held : Bool} {fuel : Nat} {t : TypeId} {cs : List Value} {x : DataW H × List MemPlace} {k : FloatKind}
    (ht : P.underlying t = some (.float k)) (h : DataW.trod enc P w base spare held fuel t cs = some x) : ∃ b, cs = [.float k b] ∧ x = (.lit (.float k b), []) ∧ (Lit.float k b).wf = true := by
  cases fuel with
  | zero => simp [DataW.trod] at h
  | succ n =>
    unfold DataW.trod at h
    rw [ht] at h
    split at h <;> simp_all
theorem open_map {H : Type} {enc : TypeId × Value → H} {W : World} {base : Nat} {sp : Nat → Bool} {held : Bool} {k : Nat} {cs : List Value} {x : DataW H × List MemPlace} (h : DataW.trod enc Tryz.prog W base sp held k 71 cs = some x) :
    ∃ op vl ap, cs = [.int .i64 op, .float .f64 vl, .int .i64 ap] ∧ vl < 18446744073709551616 ∧ In64 ap := by
  obtain ⟨xs, n, _, rfl, hl, hlen, hf⟩ := DataW.trod_struct Tryz.underlying71 h
  rw [cells84] at hl
  match cs, hl with
  | [c0, c1, c2], _ =>
    match xs, hlen with
    | [y0, y1, y2], _ =>
      have h0 : DataW.trod enc Tryz.prog W base sp held n 3 [c0] = some y0 := by have := hf 0 _ rfl; simpa [cells3] using this
      have h1 : DataW.trod enc Tryz.prog W base sp held n 22 [c1] = some y1 := by have := hf 1 _ rfl; simpa [cells28] using this
      have h2 : DataW.trod enc Tryz.prog W base sp held n 3 [c2] = some y2 := by have := hf 2 _ rfl; simpa [cells3] using this
      obtain ⟨op, e0, _, _⟩ := DataW.trod_int Tryz.underlying3 h0
      obtain ⟨vl, e1, _, hw⟩ := trod_float Tryz.underlying22 h1
      obtain ⟨ap, e2, _, w2⟩ := DataW.trod_int Tryz.underlying3 h2
      simp only [List.cons.injEq, and_true] at e0 e1 e2
      subst e0 e1 e2
      exact ⟨op, vl, ap, rfl, of_decide_eq_true hw, in64 w2⟩
theorem cells_range {W : World} {base : Nat} {a : Addr} {n : Nat} {cs : List Value} (h : W.cells? base a n = some cs) (hn : 0 < n) : ∃ b off, a = ⟨b, off, none⟩ ∧ b < W.heap.size ∧ W.rangeAt b off cs := by
  unfold World.cells? at h
  split at h
  · have hget : ∀ i, i < n → ∃ v, cs[i]? = some v ∧ W.cell? (a.add i) = some v := by
      intro i hi
      have hl := mapM_some_length h
      rw [List.length_range] at hl
      have := mapM_some_get h i i (by rw [List.getElem?_range hi])
      have hlt : i < cs.length := by omega
      refine ⟨cs[i], List.getElem?_eq_getElem hlt, ?_⟩
      rw [this, List.getElem?_eq_getElem hlt]
    obtain ⟨b, off, sp⟩ := a
    obtain ⟨v0, _, h0⟩ := hget 0 hn
    have hsp : sp = none := by
      cases sp with
      | none => rfl
      | some q =>
        simp only [Addr.add, World.cell?] at h0
        split at h0 <;> simp at h0
    subst hsp
    refine ⟨b, off, rfl, ?_, fun j v hj => ?_⟩
    · rcases Nat.lt_or_ge b W.heap.size with hb | hb
      · exact hb
      · rw [add_plain] at h0
        simp [World.cell?, Array.getElem?_eq_none hb] at h0
    · have hl := mapM_some_length h
      rw [List.length_range] at hl
      have hjl : j < n := by
        rcases Nat.lt_or_ge j cs.length with hb | hb
        · omega
        · rw [List.getElem?_eq_none hb] at hj; cases hj
      obtain ⟨v', h1, h2⟩ := hget j hjl
      rw [hj, Option.some.injEq] at h1
      subst h1
      rw [add_plain] at h2
      exact h2
  · cases h
theorem slice_el {H : Type} {enc : TypeId × Value → H} {W : World} {sp : Nat → Bool} {held : Bool} {k : Nat} {v : Value} {x : DataW H × List MemPlace} {t e : TypeId} (ht : Tryz.prog.underlying t = some (.slice e)) (hsz : 0 < Tryz.prog.cellsOf e)
    (h : DataW.trod enc Tryz.prog W 0 sp held k t [v] = some x) :
    ∃ n : Nat, SlOK v n ∧ ∀ i : Nat, i < n → ∃ ev cs, (∀ j : Int, j = i → ElOK W v j ev (Tryz.prog.cellsOf e) cs) ∧ ∃ k' y, DataW.trod enc Tryz.prog W 0 sp held k' e cs = some y := by
  rcases Go.Deep.open_slice ht h with ⟨h0, _⟩ | ⟨a, len, cap, m, n, D, Pl, h0, _, hlc, _, hm, _, hel⟩
  · simp only [List.cons.injEq, and_true] at h0
    subst h0
    exact ⟨0, ⟨none, 0, 0, rfl, rfl⟩, fun i hi => by omega⟩
  · simp only [List.cons.injEq, and_true] at h0
    subst h0
    refine ⟨len, ⟨some a, len, cap, rfl, rfl⟩, fun i hi => ?_⟩
    have him : i < m := by rw [hm]; split <;> omega
    obtain ⟨c0, h10, _⟩ := hel 0 (by omega)
    obtain ⟨b, off, ha, hb, _⟩ := cells_range h10 hsz
    have ha' : a = ⟨b, off, none⟩ := by rw [← ha]; simp [Addr.add]
    subst ha'
    obtain ⟨cs, h1, h2⟩ := hel i him
    obtain ⟨b', off', hb', hlt, hr⟩ := cells_range h1 hsz
    rw [add_plain] at hb'
    simp only [Addr.mk.injEq, and_true] at hb'
    obtain ⟨rfl, rfl⟩ := hb'
    exact ⟨_, cs, fun j hj => ⟨b, off, len, cap, i, rfl, hj, hi, rfl, hlt, hr⟩, _, _, h2⟩
theorem cells25 : Tryz.prog.cellsOf 40 = 4 := by kernel_rfl
theorem cells22 : Tryz.prog.cellsOf 37 = 1 := by kernel_rfl
theorem cells23 : Tryz.prog.cellsOf 38 = 1 := by kernel_rfl
theorem open_format {H : Type} {enc : TypeId × Value → H} {W : World} {sp : Nat → Bool} {held : Bool} {k : Nat} {cs : List Value} {x : DataW H × List MemPlace} (h : DataW.trod enc Tryz.prog W 0 sp held k 40 cs = some x) :
    ∃ kk p q wh, cs = [.int .i64 kk, p, q, .bool wh] ∧ (∃ k' y, DataW.trod enc Tryz.prog W 0 sp held k' 37 [p] = some y) ∧ ∃ k' y, DataW.trod enc Tryz.prog W 0 sp held k' 38 [q] = some y := by
  obtain ⟨xs, n, _, rfl, hl, hlen, hf⟩ := DataW.trod_struct Tryz.underlying40 h
  rw [cells25] at hl
  match cs, hl with
  | [c0, c1, c2, c3], _ =>
    match xs, hlen with
    | [y0, y1, y2, y3], _ =>
      have h0 : DataW.trod enc Tryz.prog W 0 sp held n 3 [c0] = some y0 := by have := hf 0 _ rfl; simpa [cells3] using this
      have h1 : DataW.trod enc Tryz.prog W 0 sp held n 37 [c1] = some y1 := by have := hf 1 _ rfl; simpa [cells22] using this
      have h2 : DataW.trod enc Tryz.prog W 0 sp held n 38 [c2] = some y2 := by have := hf 2 _ rfl; simpa [cells23] using this
      have h3 : DataW.trod enc Tryz.prog W 0 sp held n 4 [c3] = some y3 := by have := hf 3 _ rfl; simpa [cells4] using this
      obtain ⟨kk, e0, _, _⟩ := DataW.trod_int Tryz.underlying3 h0
      obtain ⟨wh, e3, _⟩ := DataW.trod_bool Tryz.underlying4 h3
      simp only [List.cons.injEq, and_true] at e0 e3
      subst e0 e3
      exact ⟨kk, c1, c2, wh, rfl, ⟨n, y1, h1⟩, n, y2, h2⟩
structure FD.More (D : FD) : Prop where
  p : ∀ i, i < D.n → In64 (D.P i).mn ∧ In64 (D.P i).pl ∧ In64 (D.P i).ex
  tx : ∀ i, i < D.n → (D.P i).tx.size ≤ 9223372036854775807
  m : ∀ j, j < D.m → (D.M j).vl < 18446744073709551616 ∧ In64 (D.M j).ap ∧ (D.bd j = false → (18 ≤ (D.M j).op ∧ (D.M j).op ≤ 23) ∧ (D.M j).vl % 9223372036854775808 < 9218868437227405312)
theorem fd_of {H : Type} {enc : TypeId × Value → H} {W : World} (hg : Consts W) (hT : Tabs W) {sp : Nat → Bool} {held : Bool} {k : Nat} {cs : List Value} {x : DataW H × List MemPlace} (h : DataW.trod enc Tryz.prog W 0 sp held k 40 cs = some x) :
    ∃ D : FD, cs = [.int .i64 D.k, D.p, D.q, .bool D.wh] ∧ SlOK D.p D.n ∧ SlOK D.q D.m ∧ (D.n ≤ 64 → D.m ≤ 8 → 0 ≤ D.k → D.k ≤ 7 → D.OK W) ∧ D.More := by
  obtain ⟨kk, p, q, wh, rfl, ⟨k1, y1, h1⟩, k2, y2, h2⟩ := open_format h
  obtain ⟨n, sp1, el1⟩ := slice_el Tryz.underlying37 (by rw [cells80]; decide) h1
  obtain ⟨m, sq1, el2⟩ := slice_el Tryz.underlying38 (by rw [cells84]; decide) h2
  have hP : ∀ i : Nat, ∃ P : Pc, i < n → (∀ j : Int, j = i → ElOK W p j P.e 7 [.int .i64 P.kd, .string P.tx, .int .i64 P.mn, .int .i64 P.pl, .int .i64 P.ex, .bool P.gr, .bool P.lo]) ∧ P.tx.size ≤ maxLen ∧ In64 P.mn ∧ In64 P.pl ∧ In64 P.ex := by
    intro i
    by_cases hi : i < n
    · obtain ⟨ev, cs', h3, k', y, h4⟩ := el1 i hi
      obtain ⟨kd, tx, mn, pl, ex, gr, lo, rfl, hs⟩ := open_piece h4
      rw [cells80] at h3
      exact ⟨⟨ev, kd, tx, mn, pl, ex, gr, lo⟩, fun _ => ⟨h3, hs⟩⟩
    · exact ⟨⟨.bool false, 0, ⟨#[]⟩, 0, 0, 0, false, false⟩, fun h => absurd h hi⟩
  have hM : ∀ i : Nat, ∃ M : Mp, i < m → (∀ j : Int, j = i → ElOK W q j M.e 3 [.int .i64 M.op, .float .f64 M.vl, .int .i64 M.ap]) ∧ M.vl < 18446744073709551616 ∧ In64 M.ap := by
    intro i
    by_cases hi : i < m
    · obtain ⟨ev, cs', h3, k', y, h4⟩ := el2 i hi
      obtain ⟨op, vl, ap, rfl, hs⟩ := open_map h4
      rw [cells84] at h3
      exact ⟨⟨ev, op, vl, ap⟩, fun _ => ⟨h3, hs⟩⟩
    · exact ⟨⟨.bool false, 0, 0, 0⟩, fun h => absurd h hi⟩
  obtain ⟨P, hP⟩ := Classical.axiomOfChoice hP
  obtain ⟨M, hM⟩ := Classical.axiomOfChoice hM
  have hgd : ∀ i : Nat, ∃ b, 0 ≤ kk → kk ≤ 7 → Both W 40 49 #[.int .i64 kk, .int .i64 (P i).kd] b := by
    intro i
    by_cases hk : 0 ≤ kk ∧ kk ≤ 7
    · obtain ⟨b, hb⟩ := may_calls hg kk (P i).kd hk.1 hk.2
      exact ⟨b, fun _ _ => hb⟩
    · exact ⟨false, fun a b => absurd ⟨a, b⟩ hk⟩
  have hrd : ∀ i : Nat, ∃ b, i < n → Both W 41 50 #[prow (P i).kd (P i).mn (P i).pl (P i).ex (P i).tx (P i).gr (P i).lo] b := by
    intro i
    by_cases hi : i < n
    · obtain ⟨b, hb⟩ := piece_calls hg hT (P i).kd (P i).mn (P i).pl (P i).ex (P i).tx (P i).gr (P i).lo (by have := (hP i hi).2.1; unfold maxLen at this; omega)
      exact ⟨b, fun _ => hb⟩
    · exact ⟨false, fun h => absurd h hi⟩
  obtain ⟨gd, hgd⟩ := Classical.axiomOfChoice hgd
  obtain ⟨rd, hrd⟩ := Classical.axiomOfChoice hrd
  let D0 : FD := ⟨kk, p, q, wh, n, m, P, M, gd, rd, fun _ => false⟩
  have hbd : ∀ j : Nat, ∃ r, j < m → ∃ cl fs, ClOK W (M j).vl cl ∧ (∀ b, ∀ f ∈ fs, f.1.ev (symTab b (D0.s2 j (D0.cnt n)).vals) = some (.bool f.2)) ∧ (∀ sy old, chkM r (senv none none false true cl sy old fs) = true) ∧ (r = false → opOK (symTab 0 (D0.s2 j (D0.cnt n)).vals) ∧ (M j).vl % 9223372036854775808 < 9218868437227405312) := by
    intro j
    by_cases hj : j < m
    · obtain ⟨r, cl, fs, a, b, c⟩ := map_any (S := D0.s2 j (D0.cnt n)) hg (show ((j : Nat) : Int) < (m : Int) by omega) (hM j hj).2.1
      exact ⟨r, fun _ => ⟨cl, fs, a, b, c⟩⟩
    · exact ⟨false, fun h => absurd h hj⟩
  obtain ⟨bd, hbd⟩ := Classical.axiomOfChoice hbd
  have hcnt : ∀ i, FD.cnt ⟨kk, p, q, wh, n, m, P, M, gd, rd, bd⟩ i = D0.cnt i := by
    intro i
    induction i with
    | zero => rfl
    | succ i ih => simp only [FD.cnt, ih]; rfl
  refine ⟨⟨kk, p, q, wh, n, m, P, M, gd, rd, bd⟩, rfl, sp1, sq1, fun hn hm h0 h7 => ⟨hg, sp1, sq1, hn, hm, h0, h7, fun i c hi => (hP i hi).1 i rfl, fun j c hj => (hM j hj).1 j rfl, fun i _ => hgd i h0 h7, fun i hi => hrd i hi, fun j hj => ?_⟩, ⟨fun i hi => (hP i hi).2.2, fun i hi => (by have := (hP i hi).2.1; unfold maxLen at this; exact this), fun j hj => ⟨(hM j hj).2.1, (hM j hj).2.2, fun hb => ?_⟩⟩⟩
  · obtain ⟨cl, fs, a, b, c, _⟩ := hbd j hj
    refine ⟨cl, fs, a, ?_, c⟩
    rw [hcnt]
    exact b
  · obtain ⟨cl, fs, a, b, c, d⟩ := hbd j hj
    obtain ⟨⟨o1, o2⟩, hv⟩ := d hb
    refine ⟨⟨?_, ?_⟩, hv⟩
    · have h1 : (cmpL .lss 17 18).ev (symTab 0 (D0.s2 j (D0.cnt n)).vals) = some (.bool (decide ((M j).op < 18))) := cmp_ev (k := 17) (n := (M j).op) rfl rfl
      rw [o1] at h1
      simp only [Option.some.injEq, Value.bool.injEq] at h1
      have := of_decide_eq_false h1.symm
      show 18 ≤ (M j).op
      omega
    · have h1 : (cmpL .gtr 17 23).ev (symTab 0 (D0.s2 j (D0.cnt n)).vals) = some (.bool (decide ((M j).op > 23))) := cmp_ev (k := 17) (n := (M j).op) rfl rfl
      rw [o2] at h1
      simp only [Option.some.injEq, Value.bool.injEq] at h1
      have := of_decide_eq_false h1.symm
      show (M j).op ≤ 23
      omega
end Go.Proofs.YtkeibmkcgnppeaaGreatDoor.Ck
namespace Go.Proofs.YtkeibmkcgnppeaaGreatDoor.Ck
open Go Go.Proofs.YtkeibmkcgnppeaaGreatDoor.Rx
set_option maxRecDepth 100000
def saysB (b : Bool) : Option Value → Bool
  | some (.bool x) => decide (x = b)
  | _ => false
theorem saysB_ok {b : Bool} {o : Option Value} (h : saysB b o = true) : o = some (.bool b) := by
  unfold saysB at h
  split at h
  · rw [of_decide_eq_true h]
  · cases h
noncomputable def chkF (E : Env) : Bool := saysB false (ans (eval E 200 (.call (.fn 49) [.ex (.sym 0), .ex (.sym 1)] ⟨16, .leaf⟩)))
section
variable (sy : Rx.Place) (old : Nat → Option (Option Obj))
theorem mayNeg : chkF ((genv sy old).with [(aNeg, true)]) = true := by as_aux_lemma => kernel_rfl
theorem mayBig : chkF ((genv sy old).with [(aBig, true)]) = true := by as_aux_lemma => kernel_rfl
theorem mayNought : chkF ((genv sy old).with [(aKind 0, true)]) = true := by as_aux_lemma => kernel_rfl
end
theorem no49 : Tryz.prog.inits.idxOf? 49 = none := by kernel_rfl
theorem no50 : Tryz.prog.inits.idxOf? 50 = none := by kernel_rfl
theorem kd_range {W : World} (hg : Consts W) {k p : Int} (h : Both W 40 49 #[.int .i64 k, .int .i64 p] true) : 1 ≤ p ∧ p ≤ 14 := by
  have h1 : (Exp.sym 1).ev (symTab W.heap.size (gvals k p)) = some (.int .i64 p) := rfl
  have go : ∀ {f : Exp × Bool}, f.1.ev (symTab W.heap.size (gvals k p)) = some (.bool f.2) → (∀ sy old, chkF ((genv sy old).with [f]) = true) → False := by
    intro f hf hc
    have OK : (env.plus (fun _ _ => none) (fun _ _ => none) (fun _ _ => none) (symTab W.heap.size (gvals k p)) (oldOf W) gtys [f]).OK :=
      env_ok.plus (fun _ _ _ h => by cases h) (fun _ _ _ h => by cases h) (fun _ _ _ h => by cases h) gtys_ok (fun x hx => by rw [List.mem_singleton] at hx; subst hx; exact hf)
    have hv : VRs (symTab W.heap.size (gvals k p)) [.ex (.sym 0), .ex (.sym 1)] [.int .i64 k, .int .i64 p] := by
      simp only [VRs, VR]
      exact ⟨_, _, rfl, ⟨rfl, rfl⟩, _, _, rfl, ⟨rfl, rfl⟩, rfl⟩
    have hl : Later W W := ⟨Nat.le_refl _, fun _ _ => rfl⟩
    have c1 := sym_call OK (saysB_ok (hc (symTab W.heap.size (gvals k p)) (oldOf W))) W rfl (Nat.le_refl _) (show 2 ≤ 16 by decide) (hl.still hg) hv
    have c2 := (h W hl).2
    have := Lib.agree no49 c1 c2
    cases this
  have cmp : ∀ {o : BinOp} {c : Int} {t : Bool}, cmpInt o p c = some t → (Exp.bin o (.sym 1) (.lit (.int .i64 c))).ev (symTab W.heap.size (gvals k p)) = some (.bool t) := by
    intro o c t h
    simp only [Exp.ev] at h1 ⊢
    rw [h1]
    exact cmpInt_ev h
  refine ⟨?_, ?_⟩
  · rcases Int.lt_or_le p 1 with hlt | hge
    · exfalso
      by_cases h0 : p = 0
      · exact go (f := (aKind 0, true)) (cmp (by simp [cmpInt, h0])) mayNought
      · exact go (f := (aNeg, true)) (cmp (by simp [cmpInt]; omega)) mayNeg
    · exact hge
  · rcases Int.lt_or_le 14 p with hlt | hge
    · exact (go (f := (aBig, true)) (cmp (by simp [cmpInt]; omega)) mayBig).elim
    · exact hge
noncomputable def chkP2 (row : AV) (E : Env) : Bool := saysB false (ans (eval (withCon E (pcon E.facts)) 200 (.call (.fn 50) [row] ⟨16, .leaf⟩)))
section
variable (sy : Rx.Place) (old : Nat → Option (Option Obj))
theorem halfE : DT.ok (penv sy old) (chkP2 rowE) (.node aGroup .leaf (.node aExp (.node aMin (.node aPl .leaf .leaf) .leaf) .leaf)) [(aKind 14, true), (aLong, true)] = true := by as_aux_lemma => kernel_rfl
theorem halfT : DT.ok (penv sy old) (chkP2 rowT) .leaf [(aKind 14, true), (aText, false)] = true := by as_aux_lemma => kernel_rfl
end
theorem piece_env {W : World} (hT : Tabs W) {k mn pl ex : Int} {s : ByteArray} {g l : Bool} (hs : s.size ≤ 9223372036854775807) {fs' : List (Exp × Bool)}
    (hfs : ∀ f ∈ fs', f.1.ev (symTab W.heap.size (pvals k mn pl ex s g l)) = some (.bool f.2)) :
    (env.plus (pcon fs') (fun _ _ => none) (fun _ _ => none) (symTab W.heap.size (pvals k mn pl ex s g l)) (oldOf W) ptys fs').OK := by
  refine env_ok.plus ?_ (fun _ _ _ h => by cases h) (fun _ _ _ h => by cases h) ptys_ok hfs
  intro f args v hv base ρ w vals hst hle hbase ha
  unfold pcon at hv
  split at hv
  · rename_i he
    have he := Nat.eq_of_beq_eq_true he
    subst he
    split at hv
    · split at hv
      · rename_i b hb
        simp only [Option.some.injEq] at hv
        subst hv
        simp only [VRs, VR] at ha
        obtain ⟨x, xs, rfl, ⟨hx, _⟩, rfl⟩ := ha
        have hx2 := Exp.ev_mono hle (show (Exp.sym 2).ev (symTab W.heap.size (pvals k mn pl ex s g l)) = some (.string s) from rfl)
        rw [hx, Option.some.injEq] at hx2
        subst hx2
        have hb2 : aValid.ev (symTab W.heap.size (pvals k mn pl ex s g l)) = some (.bool b) := look_ok hfs hb
        have hb3 : aValid.ev (symTab W.heap.size (pvals k mn pl ex s g l)) = some (.bool (Lib.validD s.data.toList)) := rfl
        rw [hb3] at hb2
        simp only [Option.some.injEq, Value.bool.injEq] at hb2
        refine Calls.mono (valid_call s w hs (hT.of_heap (still_later hst))) fun e w' he => ?_
        obtain ⟨rfl, hbel⟩ := he
        exact ⟨_, rfl, by simp only [VR]; rw [hb2], hbel⟩
      · cases hv
    · cases hv
  · cases hv
theorem half_long {W : World} (hg : Consts W) (hT : Tabs W) {mn pl ex : Int} {s : ByteArray} {g l : Bool} (hs : s.size ≤ 9223372036854775807) (h : Both W 41 50 #[prow 14 mn pl ex s g l] true) : l = false := by
  cases l with
  | false => rfl
  | true =>
    exfalso
    have hl : Later W W := ⟨Nat.le_refl _, fun _ _ => rfl⟩
    have go : ∀ {row : AV} {d : DT} {fs : List (Exp × Bool)}, VR (symTab W.heap.size (pvals 14 mn pl ex s g true)) row (prow 14 mn pl ex s g true) → (∀ sy old, d.ok (penv sy old) (chkP2 row) fs = true) →
        (∀ f ∈ fs, f.1.ev (symTab W.heap.size (pvals 14 mn pl ex s g true)) = some (.bool f.2)) → False := by
      intro row d fs hrow hd hf
      obtain ⟨fs', hfs, hchk⟩ := DT.ok_at (E := penv (symTab W.heap.size (pvals 14 mn pl ex s g true)) (oldOf W)) ptys_ok (hd _ _) hf
      have c1 := sym_call (piece_env hT hs hfs) (saysB_ok hchk) W rfl (Nat.le_refl _) (show 9 ≤ 16 by decide) (hl.still hg) (vals := [prow 14 mn pl ex s g true]) (by simp only [VRs]; exact ⟨_, _, rfl, hrow, rfl⟩)
      have := Lib.agree no50 c1 (h W hl).2
      cases this
    by_cases he : s = ⟨#[]⟩
    · subst he
      exact go rowE_ok halfE (two_facts kind_fact rfl)
    · exact go rowT_ok halfT (two_facts kind_fact (text_fact he))
structure Good (D : FD) : Prop where
  k : 0 ≤ D.k ∧ D.k ≤ 7
  n : D.n ≤ 64
  m : D.m ≤ 8
  wh : D.wh = true → D.k = 5
  p : ∀ i, i < D.n → (In64 (D.P i).mn ∧ In64 (D.P i).pl ∧ In64 (D.P i).ex) ∧ (1 ≤ (D.P i).kd ∧ (D.P i).kd ≤ 14) ∧ ((D.P i).kd = 14 → (D.P i).lo = false)
  q : ∀ j, j < D.m → (D.M j).vl < 18446744073709551616 ∧ In64 (D.M j).ap ∧ (18 ≤ (D.M j).op ∧ (D.M j).op ≤ 23) ∧ (D.M j).vl % 9223372036854775808 < 9218868437227405312
theorem good_of {W : World} {D : FD} (hT : Tabs W) (hD : D.OK W) (hM : D.More) (hwh : D.wh = true → D.k = 5) (hb : ¬ D.bad) : Good D where
  k := ⟨hD.k0, hD.k7⟩
  n := hD.hn
  m := hD.hm
  wh := hwh
  p := fun i hi => by
    have hgr : (D.gd i && D.rd i) = true := by
      rcases Bool.eq_false_or_eq_true (D.gd i && D.rd i) with h | h
      · exact h
      · exact absurd (.inl ⟨i, hi, h⟩) hb
    simp only [Bool.and_eq_true] at hgr
    have h1 := hD.hg i hi
    rw [hgr.1] at h1
    have h2 := hD.hr i hi
    rw [hgr.2] at h2
    refine ⟨hM.p i hi, kd_range hD.cs h1, fun h14 => ?_⟩
    rw [h14] at h2
    exact half_long hD.cs hT (hM.tx i hi) h2
  q := fun j hj => by
    have hbd : D.bd j = false := by
      cases h : D.bd j with
      | false => rfl
      | true => exact absurd (.inr (.inr ⟨j, hj, h⟩)) hb
    obtain ⟨a, b, c⟩ := hM.m j hj
    exact ⟨a, b, c hbd⟩
end Go.Proofs.YtkeibmkcgnppeaaGreatDoor.Ck

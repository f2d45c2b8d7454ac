/- The contracts under which the tests' pieces are gone through hold. -/
import Derived.Test.YtiamenedboifeabGreatDoorSegFacts
import Derived.Test.YtiamenedboifeabGreatDoorPieceCalls
namespace Go.Proofs.YtiamenedboifeabGreatDoor
open Go Go.Proofs.YtiamenedboifeabGreatDoor.Rx
set_option maxRecDepth 100000

structure Sy where
  k : Int := 0
  p : Value := .bool false
  q : Value := .bool false
  wh : Bool := false
  n : Int := 0
  i : Int := 0
  c : Int := 0
  m : Int := 0
  e1 : Value := .bool false
  kd : Int := 0
  tx : ByteArray := ⟨#[]⟩
  mn : Int := 0
  pl : Int := 0
  ex : Int := 0
  gr : Bool := false
  lo : Bool := false
  e2 : Value := .bool false
  op : Int := 0
  vl : Nat := 0
  ap : Int := 0

def Sy.vals (S : Sy) : List Value :=
  [.int .i64 S.k, S.p, S.q, .bool S.wh, .int .i64 S.n, .int .i64 S.i, .int .i64 S.c, .int .i64 S.m, S.e1, .int .i64 S.kd, .string S.tx, .int .i64 S.mn, .int .i64 S.pl, .int .i64 S.ex, .bool S.gr, .bool S.lo, S.e2, .int .i64 S.op, .float .f64 S.vl, .int .i64 S.ap]

def Sy.piece (S : Sy) : List Value := [.int .i64 S.kd, .string S.tx, .int .i64 S.mn, .int .i64 S.pl, .int .i64 S.ex, .bool S.gr, .bool S.lo]
def Sy.map (S : Sy) : List Value := [.int .i64 S.op, .float .f64 S.vl, .int .i64 S.ap]

theorem stys_ok {b : Nat} {S : Sy} : ∀ i t, stys.get i = some t → ∃ lc, symTab b S.vals i = some lc ∧ hasTy lc.val t = true := by
  intro i t h
  have key : ∀ (j : Nat) (u : Ty), stys.get j = some u → j < 20 := by
    intro j u hu
    rcases Nat.lt_or_ge j 20 with hj | hj
    · exact hj
    · exfalso
      simp [stys, T.get_set, show ¬ j = 19 by omega, show ¬ j = 18 by omega, show ¬ j = 17 by omega, show ¬ j = 15 by omega, show ¬ j = 14 by omega, show ¬ j = 13 by omega, show ¬ j = 12 by omega, show ¬ j = 11 by omega, show ¬ j = 10 by omega, show ¬ j = 9 by omega, show ¬ j = 7 by omega, show ¬ j = 6 by omega, show ¬ j = 5 by omega, show ¬ j = 4 by omega, show ¬ j = 3 by omega, show ¬ j = 0 by omega] at hu
  have hlt := key i t h
  match i, h, hlt with
  | 0, h, _ | 3, h, _ | 4, h, _ | 5, h, _ | 6, h, _ | 7, h, _ | 9, h, _ | 10, h, _ | 11, h, _ | 12, h, _ | 13, h, _ | 14, h, _ | 15, h, _ | 17, h, _ | 18, h, _ | 19, h, _ =>
    cases h
    exact ⟨_, rfl, rfl⟩
  | 1, h, _ | 2, h, _ | 8, h, _ | 16, h, _ => cases h
  | j + 20, _, hlt => omega

/-- A slice of so many. -/
def SlOK (v : Value) (n : Int) : Prop := ∃ (a : Option Addr) (len cap : Nat), v = .slice a len cap ∧ n = len

/-- An element of it, and where it lies. -/
def ElOK (W : World) (v : Value) (i : Int) (e : Value) (sz : Nat) (cs : List Value) : Prop :=
  ∃ (b off len cap j : Nat), v = .slice (some ⟨b, off, none⟩) len cap ∧ i = j ∧ j < len ∧ e = .pointer (some ⟨b, off + j * sz, none⟩) ∧ b < W.heap.size ∧ W.rangeAt b (off + j * sz) cs

def Says (W : World) (f : FuncId) (args : Array Value) (r : Bool) : Prop :=
  ∀ w, Later W w → Calls Tryz.prog f args w (fun e w' => e = .returned (.bool r) ∧ RowKit.Below w.heap.size w w')

def ClOK (W : World) (vl : Nat) : Cl → Prop
  | .off => True
  | .nan => (∀ y, FloatKind.f64.format.order vl y = none) ∧ FloatKind.f64.format.sub vl vl = none ∧ Says W 39 #[.float .f64 vl] true
  | .fin => FloatKind.f64.format.sub vl vl = some 0 ∧ Says W 39 #[.float .f64 vl] false ∧ Says W 40 #[.float .f64 vl, .int .i64 0] false
  | .lit b => vl = b

theorem ex_val {ρ : Rx.Place} {b : Nat} {l : List Value} (hle : (symTab b l).le ρ) {k : Nat} {v x : Value} (hk : l[k]? = some v) (h : VR ρ (.ex (.sym k)) x) : x = v := by
  simp only [VR] at h
  have h1 : (Exp.sym k).ev (symTab b l) = some v := by
    simp only [Exp.ev, symTab, hk]
  have h2 := Exp.ev_mono hle h1
  rw [h.1, Option.some.injEq] at h2
  exact h2

theorem ex_VR {ρ : Rx.Place} {b : Nat} {l : List Value} (hle : (symTab b l).le ρ) {k : Nat} {v : Value} (hk : l[k]? = some v) (h1 : v.oneCell' = true) : VR ρ (.ex (.sym k)) v := by
  simp only [VR]
  refine ⟨Exp.ev_mono hle ?_, h1⟩
  simp only [Exp.ev, symTab, hk]

theorem sPiece_VR {ρ : Rx.Place} {b : Nat} {S : Sy} (hle : (symTab b S.vals).le ρ) : VRs ρ sPiece S.piece := by
  simp only [sPiece, Sy.piece, VRs]
  exact ⟨_, _, rfl, ex_VR hle (k := 9) rfl rfl, _, _, rfl, ex_VR hle (k := 10) rfl rfl, _, _, rfl, ex_VR hle (k := 11) rfl rfl, _, _, rfl, ex_VR hle (k := 12) rfl rfl, _, _, rfl, ex_VR hle (k := 13) rfl rfl,
    _, _, rfl, ex_VR hle (k := 14) rfl rfl, _, _, rfl, ex_VR hle (k := 15) rfl rfl, rfl⟩

theorem VRs_det {ρ : Rx.Place} : ∀ {k0 : Nat} {b : Nat} {l : List Value} (_ : (symTab b l).le ρ) (n : Nat) {xs : List Value}, (∀ i, i < n → ∃ v, l[k0 + i]? = some v) → VRs ρ ((List.range' k0 n).map fun k => .ex (.sym k)) xs → xs = (l.drop k0).take n
  | k0, b, l, hle, 0, xs, _, h => by
    simp only [List.range'_zero, List.map_nil, VRs] at h
    simp [h]
  | k0, b, l, hle, n + 1, xs, hv, h => by
    simp only [List.range'_succ, List.map_cons, VRs] at h
    obtain ⟨x, ys, rfl, h1, h2⟩ := h
    obtain ⟨v, hk⟩ := hv 0 (by omega)
    rw [Nat.add_zero] at hk
    have hx := ex_val hle hk h1
    have hys := VRs_det (k0 := k0 + 1) hle n (fun i hi => by have := hv (i + 1) (by omega); rwa [show k0 + (i + 1) = k0 + 1 + i by omega] at this) h2
    have hlt : k0 < l.length := by
      rcases Nat.lt_or_ge k0 l.length with h | h
      · exact h
      · rw [List.getElem?_eq_none h] at hk; cases hk
    rw [hx, hys, List.drop_eq_getElem_cons hlt, List.take_succ_cons]
    rw [List.getElem?_eq_getElem hlt, Option.some.injEq] at hk
    rw [hk]

theorem Later.range {W w : World} (h : Later W w) {b off : Nat} {cs : List Value} (hb : b < W.heap.size) (hr : W.rangeAt b off cs) : w.rangeAt b off cs := by
  intro j v hj
  have := hr j v hj
  simp only [World.cell?] at this ⊢
  rw [h.2 b hb]
  exact this

theorem info80 : ∃ inf, Tryz.prog.info? 80 = some inf ∧ inf.size = 7 := by
  have : (Tryz.prog.info? 80).map (·.size) = some 7 := by kernel_rfl
  obtain ⟨inf, h1, h2⟩ := Option.map_eq_some_iff.1 this
  exact ⟨inf, h1, h2⟩
theorem info84 : ∃ inf, Tryz.prog.info? 84 = some inf ∧ inf.size = 3 := by
  have : (Tryz.prog.info? 84).map (·.size) = some 3 := by kernel_rfl
  obtain ⟨inf, h1, h2⟩ := Option.map_eq_some_iff.1 this
  exact ⟨inf, h1, h2⟩

theorem range_later {W w : World} (h : ∀ k, k < W.heap.size → w.heap[k]? = W.heap[k]?) {b off : Nat} {cs : List Value} (hb : b < W.heap.size) (hr : W.rangeAt b off cs) : w.rangeAt b off cs := by
  intro j v hj
  have := hr j v hj
  simp only [World.cell?] at this ⊢
  rw [h b hb]
  exact this

theorem sMap_VR {ρ : Rx.Place} {b : Nat} {W : World} {S : Sy} {cl : Cl} (hle : (symTab b S.vals).le ρ) (hcl : ClOK W S.vl cl) : VRs ρ (sMap cl) S.map := by
  simp only [sMap, Sy.map, VRs]
  refine ⟨_, _, rfl, ex_VR hle (k := 17) rfl rfl, _, _, rfl, ?_, _, _, rfl, ex_VR hle (k := 19) rfl rfl, rfl⟩
  cases cl with
  | lit b => simp only [Cl.cell, VR]; rw [show S.vl = b from hcl]
  | _ => exact ex_VR hle (k := 18) rfl rfl

theorem senv_ok {W : World} {B : Nat} {S : Sy} {g r : Option Bool} {in1 in2 : Bool} {cl : Cl} {facts : List (Exp × Bool)}
    (h37 : ∀ b, g = some b → Both W 37 21 #[.int .i64 S.k, .int .i64 S.kd] b)
    (h38 : ∀ b, r = some b → Both W 38 22 #[prow S.kd S.mn S.pl S.ex S.tx S.gr S.lo] b)
    (hn : SlOK S.p S.n) (hm : SlOK S.q S.m)
    (h1 : in1 = true → ElOK W S.p S.i S.e1 7 S.piece) (h2 : in2 = true → ElOK W S.q S.i S.e2 3 S.map)
    (hcl : ClOK W S.vl cl) (hf : ∀ f ∈ facts, f.1.ev (symTab B S.vals) = some (.bool f.2)) :
    (senv g r in1 in2 cl (symTab B S.vals) (oldOf W) facts).OK := by
  have hbase : ∀ {base : Nat} {w : World} {con : FuncId → List AV → Option AV} {opc opn : Op → (Operand → AV) → Option AV}, base ≤ w.heap.size → (env.plus con opc opn (symTab B S.vals) (oldOf W) stys facts).Still base w → Later W w := by
    intro base w con opc opn hb hst
    refine ⟨?_, still_later hst⟩
    rcases Nat.eq_zero_or_pos W.heap.size with h0 | h0
    · omega
    · have hk : Nat.blt (W.heap.size - 1) W.heap.size = true := by simpa [Nat.blt_eq] using (by omega : W.heap.size - 1 < W.heap.size)
      have := (hst.2 (W.heap.size - 1) W.heap[W.heap.size - 1]? (by show oldOf W _ = _; simp [oldOf, hk])).1
      omega
  refine env_ok.plus ?_ ?_ ?_ stys_ok hf
  · intro f args v hv base ρ w vals hst hle hb ha
    have hL := hbase hb hst
    have fin : ∀ {c : Bool} {x : Array Value}, vals.toArray = x → Calls Tryz.prog f x w (fun e w' => e = .returned (.bool c) ∧ RowKit.Below w.heap.size w w') → v = .lit (.bool c) →
        Calls env.P f vals.toArray w fun e w' => ∃ x, e = .returned x ∧ VR ρ v x ∧ RowKit.Below w.heap.size w w' := by
      rintro c x rfl hcall rfl
      refine Calls.mono hcall fun e w' he => ?_
      obtain ⟨rfl, hbel⟩ := he
      exact ⟨_, rfl, by simp only [VR], hbel⟩
    unfold scon at hv
    split at hv
    · split at hv
      · rename_i hff
        split at hv
        · rename_i b
          simp only [Option.some.injEq] at hv
          simp only [VRs] at ha
          obtain ⟨x, _, rfl, hx, y, _, rfl, hy, rfl⟩ := ha
          have hx := ex_val hle (k := 0) (v := .int .i64 S.k) rfl hx
          have hy := ex_val hle (k := 9) (v := .int .i64 S.kd) rfl hy
          subst hx hy
          have hB := h37 b rfl w hL
          simp only [Bool.or_eq_true] at hff
          rcases hff with hff | hff
          · have := Nat.eq_of_beq_eq_true hff; subst this
            exact fin rfl hB.1 hv.symm
          · have := Nat.eq_of_beq_eq_true hff; subst this
            exact fin rfl hB.2 hv.symm
        · cases hv
      · cases hv
    · rename_i l
      split at hv
      · rename_i hff
        split at hv
        · rename_i hsa
          have hl := sameAll_ok hsa
          subst hl
          split at hv
          · rename_i b
            simp only [Option.some.injEq] at hv
            simp only [VRs] at ha
            obtain ⟨x, _, rfl, hx, rfl⟩ := ha
            simp only [VR] at hx
            obtain ⟨cs, rfl, hx⟩ := hx
            have hx2 := VRs_det (k0 := 9) hle 7 (fun i hi => by
              match i, hi with
              | 0, _ | 1, _ | 2, _ | 3, _ | 4, _ | 5, _ | 6, _ => exact ⟨_, rfl⟩) (show VRs ρ ((List.range' 9 7).map fun k => .ex (.sym k)) cs.toList from hx)
            have hcs : cs = #[.int .i64 S.kd, .string S.tx, .int .i64 S.mn, .int .i64 S.pl, .int .i64 S.ex, .bool S.gr, .bool S.lo] := Array.ext' (by rw [hx2]; rfl)
            subst hcs
            have hB := h38 b rfl w hL
            simp only [Bool.or_eq_true] at hff
            rcases hff with hff | hff
            · have := Nat.eq_of_beq_eq_true hff; subst this
              exact fin rfl hB.1 hv.symm
            · have := Nat.eq_of_beq_eq_true hff; subst this
              exact fin rfl hB.2 hv.symm
          · cases hv
        · cases hv
      · cases hv
    · split at hv
      · rename_i hff
        have := Nat.eq_of_beq_eq_true hff; subst this
        simp only [VRs] at ha
        obtain ⟨x, _, rfl, hx, rfl⟩ := ha
        have hx := ex_val hle (k := 18) (v := .float .f64 S.vl) rfl hx
        subst hx
        split at hv
        · simp only [Option.some.injEq] at hv
          exact fin rfl (hcl.2.2 w hL) hv.symm
        · simp only [Option.some.injEq] at hv
          exact fin rfl (hcl.2.1 w hL) hv.symm
        · cases hv
      · cases hv
    · rename_i z
      split at hv
      · rename_i hff
        have := Nat.eq_of_beq_eq_true hff; subst this
        split at hv
        · rename_i hz
          have hz := of_decide_eq_true hz
          subst hz
          simp only [VRs] at ha
          obtain ⟨x, _, rfl, hx, y, _, rfl, hy, rfl⟩ := ha
          have hx := ex_val hle (k := 18) (v := .float .f64 S.vl) rfl hx
          simp only [VR] at hy
          subst hx hy
          split at hv
          · simp only [Option.some.injEq] at hv
            exact fin rfl (hcl.2.2 w hL) hv.symm
          · cases hv
        · cases hv
      · cases hv
    · cases hv
  · intro op gg v hv base ρ w e hst hle hx o ho
    have val : ∀ {k : Nat} {u : Value} {x : Operand}, gg x = .ex (.sym k) → S.vals[k]? = some u → e x = u := fun {k u x} hgx hk => ex_val hle hk (by rw [← hgx]; exact hx x)
    cases op with
    | call c =>
      simp only [sopc] at hv
      split at hv
      · rename_i hcal
        split at hv
        · rename_i t ht
          split at hv
          · rename_i x hargs
            split at hv
            · rename_i hgx
              split at hv
              · rename_i hb
                have hb := Nat.eq_of_beq_eq_true hb
                subst hb
                simp only [Option.some.injEq] at hv
                subst hv
                obtain ⟨a, len, cap, h1', h2'⟩ := hn
                have hex := val (u := S.p) hgx rfl
                rw [h1'] at hex
                refine ⟨.int .i64 len, hook_len ho hcal ht hargs Tryz.underlying22 hex w, ex_VR hle (k := 4) ?_ rfl⟩
                show some (Value.int .i64 S.n) = _
                rw [h2']
              · cases hv
            · rename_i hgx
              split at hv
              · rename_i hb
                have hb := Nat.eq_of_beq_eq_true hb
                subst hb
                simp only [Option.some.injEq] at hv
                subst hv
                obtain ⟨a, len, cap, h1', h2'⟩ := hm
                have hex := val (u := S.q) hgx rfl
                rw [h1'] at hex
                refine ⟨.int .i64 len, hook_len ho hcal ht hargs Tryz.underlying23 hex w, ex_VR hle (k := 7) ?_ rfl⟩
                show some (Value.int .i64 S.m) = _
                rw [h2']
              · cases hv
            · cases hv
          · cases hv
        · cases hv
      · cases hv
    | indexAddr t x i =>
      simp only [sopc] at hv
      split at hv
      · rename_i hgx
        split at hv
        · rename_i hgi
          split at hv
          · rename_i hb
            simp only [Bool.and_eq_true] at hb
            have hb1 := Nat.eq_of_beq_eq_true hb.1
            subst hb1
            simp only [Option.some.injEq] at hv
            subst hv
            obtain ⟨b, off, len, cap, j, k1, k2, k3, k4, k5, k6⟩ := h1 hb.2
            have hex := val (u := S.p) hgx rfl
            have hei := val (u := .int .i64 S.i) hgi rfl
            rw [k1] at hex
            rw [k2] at hei
            obtain ⟨inf, hinf, hsz⟩ := info80
            refine ⟨_, hook_index ho Tryz.underlying22 hinf hex hei k3 w, ex_VR hle (k := 8) ?_ rfl⟩
            show some S.e1 = _
            rw [k4, hsz]
          · cases hv
        · cases hv
      · rename_i hgx
        split at hv
        · rename_i hgi
          split at hv
          · rename_i hb
            simp only [Bool.and_eq_true] at hb
            have hb1 := Nat.eq_of_beq_eq_true hb.1
            subst hb1
            simp only [Option.some.injEq] at hv
            subst hv
            obtain ⟨b, off, len, cap, j, k1, k2, k3, k4, k5, k6⟩ := h2 hb.2
            have hex := val (u := S.q) hgx rfl
            have hei := val (u := .int .i64 S.i) hgi rfl
            rw [k1] at hex
            rw [k2] at hei
            obtain ⟨inf, hinf, hsz⟩ := info84
            refine ⟨_, hook_index ho Tryz.underlying23 hinf hex hei k3 w, ex_VR hle (k := 16) ?_ rfl⟩
            show some S.e2 = _
            rw [k4, hsz]
          · cases hv
        · cases hv
      · cases hv
    | load t p =>
      simp only [sopc] at hv
      split at hv
      · rename_i hgx
        split at hv
        · rename_i hb
          simp only [Bool.and_eq_true] at hb
          have hb1 := Nat.eq_of_beq_eq_true hb.1
          subst hb1
          simp only [Option.some.injEq] at hv
          subst hv
          obtain ⟨b, off, len, cap, j, k1, k2, k3, k4, k5, k6⟩ := h1 hb.2
          have hex := val (u := S.e1) hgx rfl
          rw [k4] at hex
          obtain ⟨inf, hinf, hsz⟩ := info80
          have hr : w.rangeAt b (off + j * 7) S.piece := range_later (still_later hst) k5 k6
          refine ⟨_, hook_load ho Tryz.underlying80 rfl hinf (by rw [hsz]; rfl) hex hr, ?_⟩
          simp only [VR]
          exact ⟨_, rfl, sPiece_VR hle⟩
        · cases hv
      · rename_i hgx
        split at hv
        · rename_i hb
          simp only [Bool.and_eq_true] at hb
          have hb1 := Nat.eq_of_beq_eq_true hb.1
          subst hb1
          simp only [Option.some.injEq] at hv
          subst hv
          obtain ⟨b, off, len, cap, j, k1, k2, k3, k4, k5, k6⟩ := h2 hb.2
          have hex := val (u := S.e2) hgx rfl
          rw [k4] at hex
          obtain ⟨inf, hinf, hsz⟩ := info84
          have hr : w.rangeAt b (off + j * 3) S.map := range_later (still_later hst) k5 k6
          refine ⟨_, hook_load ho Tryz.underlying84 rfl hinf (by rw [hsz]; rfl) hex hr, ?_⟩
          simp only [VR]
          exact ⟨_, rfl, sMap_VR hle hcl⟩
        · cases hv
      · cases hv
    | binOp o' t x y ty =>
      simp only [sopc] at hv
      split at hv
      · rename_i hgx
        split at hv
        · split at hv
          · rename_i hgy
            split at hv
            · simp only [Option.some.injEq] at hv
              subst hv
              have hex := val (u := .float .f64 S.vl) hgx rfl
              have hey := val (u := .float .f64 S.vl) hgy rfl
              refine ⟨.float .f64 0, ?_, by simp only [VR]⟩
              unfold execOp
              simp only [ho, hex, hey]
              rw [Sem.run_bind, evBin_exec (v := .float .f64 0) (by simp [evBin, Go.binOp, Op.floatArith, hcl.1, pure]; rfl) (fun _ h => by cases h) w]
              rfl
            · cases hv
          · cases hv
        · cases hv
      · rename_i hgx
        split at hv
        · split at hv
          · rename_i hz
            simp only [Option.some.injEq] at hv
            subst hv
            have h0 := hx x
            rw [hgx] at h0
            simp only [VR] at h0
            obtain ⟨bb, hex, hord⟩ := h0
            have h1' := hx y
            have hey : e y = .float .f64 0 := by
              unfold isZero at hz
              split at hz
              · rename_i b hgy
                have := Nat.eq_of_beq_eq_true hz
                subst this
                rw [hgy] at h1'
                simpa only [VR] using h1'
              · cases hz
            refine ⟨.bool true, ?_, by simp only [VR]⟩
            unfold execOp
            simp only [ho, hex, hey]
            rw [Sem.run_bind, evBin_exec (v := .bool true) (by simp [evBin, Go.binOp, Op.floatCmp, hord, pure0, pure]) (fun _ h => by cases h) w]
            rfl
          · cases hv
        · cases hv
      · cases hv
    | _ => cases hv
  · intro op gg v hv base ρ w e hst hle hx o ho
    have val : ∀ {k : Nat} {u : Value} {x : Operand}, gg x = .ex (.sym k) → S.vals[k]? = some u → e x = u := fun {k u x} hgx hk => ex_val hle hk (by rw [← hgx]; exact hx x)
    cases op with
    | binOp o' t x y ty =>
      simp only [sopn] at hv
      split at hv
      · split at hv
        · rename_i hgx
          split at hv
          · rename_i hgy
            split at hv
            · simp only [Option.some.injEq] at hv
              subst hv
              have hex := val (u := .float .f64 S.vl) hgx rfl
              have hey := val (u := .float .f64 S.vl) hgy rfl
              exact nan_sub ho hex hey hcl.2.1 w
            · cases hv
          · cases hv
        · rename_i b hgx
          split at hv
          · rename_i b' hgy
            split at hv
            · rename_i hbb
              have hbb := Nat.eq_of_beq_eq_true hbb
              subst hbb
              split at hv
              · rename_i hinf
                simp only [Option.some.injEq] at hv
                subst hv
                have h0 := hx x
                have h1' := hx y
                rw [hgx] at h0
                rw [hgy] at h1'
                simp only [VR] at h0 h1'
                refine nan_sub ho h0 h1' ?_ w
                simp only [isInf, Bool.or_eq_true] at hinf
                rcases hinf with h | h
                · have := Nat.eq_of_beq_eq_true h; subst this; decide +kernel
                · have := Nat.eq_of_beq_eq_true h; subst this; decide +kernel
              · cases hv
            · cases hv
          · cases hv
        · cases hv
      · cases hv
    | _ => cases hv
end Go.Proofs.YtiamenedboifeabGreatDoor

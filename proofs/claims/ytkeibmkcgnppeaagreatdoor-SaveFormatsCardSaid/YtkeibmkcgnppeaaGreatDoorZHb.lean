/- Rules, gone through by the evaluator. -/
import Derived.Test.YtkeibmkcgnppeaaGreatDoorZHa
namespace Go.Proofs.YtkeibmkcgnppeaaGreatDoor.Ru
open Go Go.Proofs.YtkeibmkcgnppeaaGreatDoor.Rx
set_option maxRecDepth 100000
def tBet : ByteArray := ⟨#[105, 115, 45, 98, 101, 116, 119, 101, 101, 110, 40]⟩
def tComma : ByteArray := ⟨#[44]⟩
def tEnd : ByteArray := ⟨#[41]⟩
def tWhole : ByteArray := ⟨#[111, 102, 58, 99, 101, 108, 108, 45, 99, 111, 110, 116, 101, 110, 116, 45, 105, 115, 45, 119, 104, 111, 108, 101, 45, 110, 117, 109, 98, 101, 114, 40, 41, 32, 97, 110, 100, 32, 99, 101, 108, 108, 45, 99, 111, 110, 116, 101, 110, 116, 45]⟩
def tDec : ByteArray := ⟨#[111, 102, 58, 99, 101, 108, 108, 45, 99, 111, 110, 116, 101, 110, 116, 45, 105, 115, 45, 100, 101, 99, 105, 109, 97, 108, 45, 110, 117, 109, 98, 101, 114, 40, 41, 32, 97, 110, 100, 32, 99, 101, 108, 108, 45, 99, 111, 110, 116, 101, 110, 116, 45]⟩
def tLen : ByteArray := ⟨#[111, 102, 58, 99, 101, 108, 108, 45, 99, 111, 110, 116, 101, 110, 116, 45, 116, 101, 120, 116, 45, 108, 101, 110, 103, 116, 104, 45]⟩
structure RV where
  lo : Nat := 0
  hi : Nat := 0
  l : Value := .slice none 0 0
  n : Nat := 0
  k : Int := 0
  t1 : ByteArray := ⟨#[]⟩
  t2 : ByteArray := ⟨#[]⟩
  s : Value := .bool false
  p : Value := .bool false
  c : Value := .bool false
  q : Value := .bool false
def RV.x1 (S : RV) : ByteArray := tBet ++ S.t1
def RV.x2 (S : RV) : ByteArray := S.x1 ++ tComma
def RV.x3 (S : RV) : ByteArray := S.x2 ++ S.t2
def RV.x4 (S : RV) : ByteArray := S.x3 ++ tEnd
def RV.vals (S : RV) : List Value := [.float .f64 S.lo, .float .f64 S.hi, S.l, .int .i64 S.n, .int .i64 S.k, .string S.t1, .string S.t2, S.s, S.p, S.c, S.q, .string S.x1, .string S.x2, .string S.x3, .string S.x4, .string (tWhole ++ S.x4), .string (tDec ++ S.x4), .string (tLen ++ S.x4)]
def RV.row (S : RV) : List Value := [.int .i64 S.k, .float .f64 S.lo, .float .f64 S.hi, S.l]
def cell0 : List Value := [.int .i64 0, .int .i64 0, .int .i64 0, .float .f64 0, .string ⟨#[]⟩, .bool false, .int .i64 0, .bool false, .int .i64 0, .float .f64 0, .string ⟨#[]⟩, .int .i64 0, .string ⟨#[]⟩, .string ⟨#[]⟩, .string ⟨#[]⟩, .bool false, .bool false, .int .i64 0, .int .i64 0, .bool false, .bool false, .int .i64 0, .int .i64 0, .bool false, .bool false, .int .i64 0, .slice none 0 0, .string ⟨#[]⟩]
def rtys : T Ty := (((((((((T.leaf.set 0 (.flt .f64)).set 1 (.flt .f64)).set 3 (.int .i64)).set 4 (.int .i64)).set 5 .str).set 6 .str).set 15 .str).set 16 .str).set 17 .str)
theorem rtys_ok {b : Nat} {S : RV} : ∀ i t, rtys.get i = some t → ∃ lc, symTab b S.vals i = some lc ∧ hasTy lc.val t = true := by
  intro i t h
  have key : ∀ (j : Nat) (u : Ty), rtys.get j = some u → j < 18 := by
    intro j u hu
    rcases Nat.lt_or_ge j 18 with hj | hj
    · exact hj
    · exfalso
      simp [rtys, T.get_set, show ¬ j = 0 by omega, show ¬ j = 1 by omega, show ¬ j = 3 by omega, show ¬ j = 4 by omega, show ¬ j = 5 by omega, show ¬ j = 6 by omega, show ¬ j = 15 by omega, show ¬ j = 16 by omega, show ¬ j = 17 by omega] at hu
  have hlt := key i t h
  match i, h, hlt with
  | 0, h, _ | 1, h, _ | 3, h, _ | 4, h, _ | 5, h, _ | 6, h, _ | 15, h, _ | 16, h, _ | 17, h, _ =>
    cases h
    exact ⟨_, rfl, rfl⟩
  | 2, h, _ | 7, h, _ | 8, h, _ | 9, h, _ | 10, h, _ | 11, h, _ | 12, h, _ | 13, h, _ | 14, h, _ => cases h
  | j + 18, _, hlt => omega
def ruleRow (ka : AV) : List AV := [ka, .ex (.sym 0), .ex (.sym 1), .ex (.sym 2)]
def is149 : AV → Bool
  | .func (.func g) [] [] => Nat.beq g 149
  | .lit (.func (.func g) ⟨[]⟩ ⟨[]⟩) => Nat.beq g 149
  | _ => false
def optB : Option Bool → Option AV
  | some b => some (.lit (.bool b))
  | none => none
structure Kn where
  b1 : Option Bool := none
  b2 : Option Bool := none
  bad : Option Bool := none
  r : Option Bool := none
  tx : Bool := false
  cl : Bool := false
  mem : Bool := false
def rcon (K : Kn) (ka : AV) (f : FuncId) (args : List AV) : Option AV :=
  match args with
  | [.ex (.sym 0)] => match Nat.beq f 148 || Nat.beq f 72 with
    | true => optB K.b1
    | false => match (Nat.beq f 24 || Nat.beq f 30) && K.tx with
      | true => some (.ex (.sym 5))
      | false => none
  | [.ex (.sym 1)] => match Nat.beq f 148 || Nat.beq f 72 with
    | true => optB K.b2
    | false => match (Nat.beq f 24 || Nat.beq f 30) && K.tx with
      | true => some (.ex (.sym 6))
      | false => none
  | [.ex (.sym 2)] => match Nat.beq f 111 && K.cl with
    | true => some .one
    | false => none
  | [.ex (.sym 2), x] => match Nat.beq f 150 && is149 x with
    | true => optB K.bad
    | false => none
  | [.agg l] => match Nat.beq f 107 || Nat.beq f 34 with
    | true => match sameAll l (ruleRow ka) with
      | true => optB K.r
      | false => none
    | false => none
  | _ => none
def catTab : List (AV × AV × Nat) := [(.lit (.string tBet), .ex (.sym 5), 11), (.ex (.sym 11), .lit (.string tComma), 12), (.ex (.sym 12), .ex (.sym 6), 13), (.ex (.sym 13), .lit (.string tEnd), 14), (.lit (.string tWhole), .ex (.sym 14), 15), (.lit (.string tDec), .ex (.sym 14), 16), (.lit (.string tLen), .ex (.sym 14), 17)]
def catFind : List (AV × AV × Nat) → AV → AV → Option Nat
  | [], _, _ => none
  | (a, b, k) :: r, x, y => match a.same x && b.same y with
    | true => some k
    | false => catFind r x y
theorem catFind_ok {x y : AV} {k : Nat} : ∀ {l : List (AV × AV × Nat)}, catFind l x y = some k → (x, y, k) ∈ l
  | [], h => by cases h
  | (a, b, j) :: r, h => by
    unfold catFind at h
    split at h
    · rename_i hs
      simp only [Bool.and_eq_true] at hs
      simp only [Option.some.injEq] at h
      subst h
      rw [AV.same_ok hs.1, AV.same_ok hs.2]
      exact List.mem_cons_self
    · exact List.mem_cons_of_mem _ (catFind_ok h)
def isZ : AV → Bool
  | .lit (.int .i64 z) => decide (z = 0)
  | _ => false
def ropc (K : Kn) (ka : AV) (op : Op) (g : Operand → AV) : Option AV :=
  match op with
  | .call c => match c.callee with
    | .builtin .len => match c.argTypes.toList with
      | [t] => match c.args.toList with
        | [x] => match g x with
          | .ex (.sym 2) => match Nat.beq t 41 with
            | true => some (.ex (.sym 3))
            | false => none
          | .ex (.sym 7) => match Nat.beq t 82 && K.mem with
            | true => some (.lit (.int .i64 1))
            | false => none
          | .ex (.sym 9) => match Nat.beq t 79 && K.mem with
            | true => some (.lit (.int .i64 1))
            | false => none
          | _ => none
        | _ => none
      | _ => none
    | _ => none
  | .indexAddr t x i => match g x with
    | .ex (.sym 7) => match Nat.beq t 82 && K.mem && isZ (g i) with
      | true => some (.ex (.sym 8))
      | false => none
    | .ex (.sym 9) => match Nat.beq t 79 && K.mem && isZ (g i) with
      | true => some (.ex (.sym 10))
      | false => none
    | _ => none
  | .binOp o _ x y _ => match o with
    | .add => match K.tx with
      | true => match catFind catTab (g x) (g y) with
        | some k => some (.ex (.sym k))
        | none => none
      | false => none
    | _ => none
  | .load t p => match g p with
    | .ex (.sym 8) => match Nat.beq t 81 && K.mem with
      | true => some (.agg [.lit (.string ⟨#[97]⟩), .ex (.sym 9)])
      | false => none
    | .ex (.sym 10) => match Nat.beq t 78 && K.mem with
      | true => some (.agg (cell0.map .lit ++ ruleRow ka))
      | false => none
    | _ => none
  | _ => none
noncomputable def fnsR : T Func := (((fns.set 12 Tryz.f12).set 72 Tryz.f72).set 150 Tryz.f150).set 30 Tryz.f30
noncomputable def envR : Env := { env with fn := fnsR }
theorem fn_set {p : FuncId → Func → Prop} {t : T Func} (h : ∀ f fn, t.get f = some fn → p f fn) {g : FuncId} {fg : Func} (hg : p g fg) : ∀ f fn, (t.set g fg).get f = some fn → p f fn := by
  intro f fn hf
  rw [T.get_set] at hf
  split at hf
  · rename_i e
    subst e
    simp only [Option.some.injEq] at hf
    subst hf
    exact hg
  · exact h f fn hf
theorem envR_ok : envR.OK where
  mixed := env_ok.mixed
  fn := fn_set (fn_set (fn_set (fn_set env_ok.fn ⟨Tryz.func12, Tryz.call12⟩) ⟨Tryz.func72, Tryz.call72⟩) ⟨Tryz.func150, Tryz.call150⟩) ⟨Tryz.func30, Tryz.call30⟩
  ext := env_ok.ext
  con := fun _ _ _ h => by cases h
  opc := fun _ _ _ h => by cases h
  opn := fun _ _ _ h => by cases h
  ty := fun _ _ h => by simp [envR, env] at h
  fact := fun _ h => by cases h
noncomputable def renv (K : Kn) (ka : AV) (sy : Rx.Place) (old : Nat → Option (Option Obj)) (facts : List (Exp × Bool)) : Env :=
  envR.plus (rcon K ka) (ropc K ka) (fun _ _ => none) sy old rtys facts
structure Holds (W : World) (B : Nat) (S : RV) (K : Kn) (ka : AV) : Prop where
  h1 : ∀ b, K.b1 = some b → FinBoth S.lo b
  h2 : ∀ b, K.b2 = some b → FinBoth S.hi b
  hbad : ∀ b, K.bad = some b → ∀ w, Later W w → Calls Tryz.prog 150 #[S.l, .func (.func 149) #[] #[]] w fun e w' => e = .returned (.bool b) ∧ RowKit.Below w.heap.size w w'
  hr : ∀ b, K.r = some b → Ck.Both W 107 34 #[.agg S.row.toArray] b
  ht : K.tx = true → ∀ w, Later W w → Calls Tryz.prog 24 #[.float .f64 S.lo] w (fun e w' => e = .returned (.string S.t1) ∧ RowKit.Below w.heap.size w w') ∧ Calls Tryz.prog 30 #[.float .f64 S.lo] w (fun e w' => e = .returned (.string S.t1) ∧ RowKit.Below w.heap.size w w') ∧
    Calls Tryz.prog 24 #[.float .f64 S.hi] w (fun e w' => e = .returned (.string S.t2) ∧ RowKit.Below w.heap.size w w') ∧ Calls Tryz.prog 30 #[.float .f64 S.hi] w (fun e w' => e = .returned (.string S.t2) ∧ RowKit.Below w.heap.size w w')
  hs : K.tx = true → S.t1.size ≤ 600 ∧ S.t2.size ≤ 600
  hc : K.cl = true → ∀ w, Later W w → Calls Tryz.prog 111 #[S.l] w fun e w' => (∃ x, e = .returned x ∧ x.oneCell' = true) ∧ RowKit.Below w.heap.size w w'
  hl : ∃ a c, S.l = .slice a S.n c
  hka : VR (symTab B S.vals) ka (.int .i64 S.k)
  hm : K.mem = true → ∃ x1 o1 c1 x2 o2 c2, S.s = .slice (some ⟨x1, o1, none⟩) 1 c1 ∧ S.p = .pointer (some ⟨x1, o1, none⟩) ∧ S.c = .slice (some ⟨x2, o2, none⟩) 1 c2 ∧ S.q = .pointer (some ⟨x2, o2, none⟩) ∧
    x1 < W.heap.size ∧ x2 < W.heap.size ∧ W.rangeAt x1 o1 [.string ⟨#[97]⟩, S.c] ∧ W.rangeAt x2 o2 (cell0 ++ S.row)
theorem info81 : ∃ inf, Tryz.prog.info? 81 = some inf ∧ inf.size = 2 := by
  have : (Tryz.prog.info? 81).map (·.size) = some 2 := by kernel_rfl
  obtain ⟨inf, h1, h2⟩ := Option.map_eq_some_iff.1 this
  exact ⟨inf, h1, h2⟩
theorem info78 : ∃ inf, Tryz.prog.info? 78 = some inf ∧ inf.size = 32 := by
  have : (Tryz.prog.info? 78).map (·.size) = some 32 := by kernel_rfl
  obtain ⟨inf, h1, h2⟩ := Option.map_eq_some_iff.1 this
  exact ⟨inf, h1, h2⟩
theorem is149_ok {ρ : Rx.Place} {x : AV} (h : is149 x = true) {v : Value} (hv : VR ρ x v) : v = .func (.func 149) #[] #[] := by
  unfold is149 at h
  split at h
  · rename_i g
    have := Nat.eq_of_beq_eq_true h
    subst this
    simp only [VR, VRs] at hv
    obtain ⟨f', c', rfl, h1, h2⟩ := hv
    have e1 : f' = #[] := Array.ext' (by rw [h1])
    have e2 : c' = #[] := Array.ext' (by rw [h2])
    rw [e1, e2]
  · rename_i g
    have := Nat.eq_of_beq_eq_true h
    subst this
    simpa only [VR] using hv
  · cases h
theorem isZ_ok {ρ : Rx.Place} {x : AV} (h : isZ x = true) {v : Value} (hv : VR ρ x v) : v = .int .i64 ((0 : Nat) : Int) := by
  unfold isZ at h
  split at h
  · have := of_decide_eq_true h
    subst this
    simp only [VR] at hv
    exact hv
  · cases h
theorem row_VR {ρ : Rx.Place} {B : Nat} {S : RV} {ka : AV} (hle : (symTab B S.vals).le ρ) (hka : VR (symTab B S.vals) ka (.int .i64 S.k)) (hl : ∃ a c, S.l = .slice a S.n c) : VRs ρ (ruleRow ka) S.row := by
  simp only [ruleRow, RV.row, VRs]
  refine ⟨_, _, rfl, hka.mono hle, _, _, rfl, Ck.ex_VR hle (k := 0) rfl rfl, _, _, rfl, Ck.ex_VR hle (k := 1) rfl rfl, _, _, rfl, Ck.ex_VR hle (k := 2) rfl ?_, rfl⟩
  obtain ⟨a, c, h⟩ := hl
  rw [h]
  rfl
theorem row_det {ρ : Rx.Place} {B : Nat} {S : RV} {ka : AV} (hle : (symTab B S.vals).le ρ) (hka : VR (symTab B S.vals) ka (.int .i64 S.k)) (hk : ∀ x, VR ρ ka x → x = .int .i64 S.k) {vs : List Value} (h : VRs ρ (ruleRow ka) vs) : vs = S.row := by
  simp only [ruleRow, VRs] at h
  obtain ⟨x0, _, rfl, h0, x1, _, rfl, h1, x2, _, rfl, h2, x3, _, rfl, h3, rfl⟩ := h
  rw [hk _ h0, Ck.ex_val hle (k := 0) (v := .float .f64 S.lo) rfl h1, Ck.ex_val hle (k := 1) (v := .float .f64 S.hi) rfl h2, Ck.ex_val hle (k := 2) (v := S.l) rfl h3]
  rfl
theorem cat_exec {P : Program} {o : Oper} {t ty : TypeId} {x y : Operand} (ho : o.op = .binOp .add t x y ty) {e : Operand → Value} {a b : ByteArray} (hx : e x = .string a) (hy : e y = .string b) (hs : a.size + b.size ≤ 9223372036854775807) (w : World) :
    (execOp e o).run P w = .ok (.value (.string (a ++ b))) w := by
  have hg : eqGuard .add t x y (.string a) (.string b) = pure () := by unfold eqGuard; rfl
  unfold execOp
  simp only [ho, hx, hy, hg]
  simp [Go.binOp, Op.stringOp]
  omega
theorem cat_run {P : Program} {ρ : Rx.Place} {B : Nat} {S : RV} (hle : (symTab B S.vals).le ρ) (z1 : S.t1.size ≤ 600) (z2 : S.t2.size ≤ 600) {gx gy : AV} {k : Nat} (hm : (gx, gy, k) ∈ catTab) {e : Operand → Value} {x y : Operand} (hx : VR ρ gx (e x)) (hy : VR ρ gy (e y))
    {o : Oper} {t ty : TypeId} (ho : o.op = .binOp .add t x y ty) (w : World) : ∃ v, (execOp e o).run P w = .ok (.value v) w ∧ VR ρ (.ex (.sym k)) v := by
  have sz : ∀ a b : ByteArray, (a ++ b).size = a.size + b.size := fun a b => ByteArray.size_append
  have s1 : S.x1.size ≤ 611 := by rw [RV.x1, sz]; have : tBet.size = 11 := rfl; omega
  have s2 : S.x2.size ≤ 612 := by rw [RV.x2, sz]; have : tComma.size = 1 := rfl; omega
  have s3 : S.x3.size ≤ 1212 := by rw [RV.x3, sz]; omega
  have s4 : S.x4.size ≤ 1213 := by rw [RV.x4, sz]; have : tEnd.size = 1 := rfl; omega
  have go : ∀ {a b : ByteArray}, e x = .string a → e y = .string b → a.size + b.size ≤ 9223372036854775807 → S.vals[k]? = some (.string (a ++ b)) → ∃ v, (execOp e o).run P w = .ok (.value v) w ∧ VR ρ (.ex (.sym k)) v :=
    fun h1 h2 h3 h4 => ⟨_, cat_exec ho h1 h2 h3 w, Ck.ex_VR hle h4 rfl⟩
  have lit : ∀ {s : ByteArray} {v : Value}, VR ρ (.lit (.string s)) v → v = .string s := fun h => by simpa only [VR] using h
  simp only [catTab, List.mem_cons, Prod.mk.injEq, List.not_mem_nil, or_false] at hm
  rcases hm with ⟨rfl, rfl, rfl⟩ | ⟨rfl, rfl, rfl⟩ | ⟨rfl, rfl, rfl⟩ | ⟨rfl, rfl, rfl⟩ | ⟨rfl, rfl, rfl⟩ | ⟨rfl, rfl, rfl⟩ | ⟨rfl, rfl, rfl⟩
  · exact go (lit hx) (Ck.ex_val hle (k := 5) (v := .string S.t1) rfl hy) (by have : tBet.size = 11 := rfl; omega) rfl
  · exact go (Ck.ex_val hle (k := 11) (v := .string S.x1) rfl hx) (lit hy) (by have : tComma.size = 1 := rfl; omega) rfl
  · exact go (Ck.ex_val hle (k := 12) (v := .string S.x2) rfl hx) (Ck.ex_val hle (k := 6) (v := .string S.t2) rfl hy) (by omega) rfl
  · exact go (Ck.ex_val hle (k := 13) (v := .string S.x3) rfl hx) (lit hy) (by have : tEnd.size = 1 := rfl; omega) rfl
  · exact go (lit hx) (Ck.ex_val hle (k := 14) (v := .string S.x4) rfl hy) (by have : tWhole.size = 51 := rfl; omega) rfl
  · exact go (lit hx) (Ck.ex_val hle (k := 14) (v := .string S.x4) rfl hy) (by have : tDec.size = 53 := rfl; omega) rfl
  · exact go (lit hx) (Ck.ex_val hle (k := 14) (v := .string S.x4) rfl hy) (by have : tLen.size = 28 := rfl; omega) rfl
set_option maxHeartbeats 2000000 in
theorem renv_ok {W : World} {B : Nat} {S : RV} {K : Kn} {ka : AV} {facts : List (Exp × Bool)} (H : Holds W B S K ka) (hk : ∀ ρ : Rx.Place, (symTab B S.vals).le ρ → ∀ x, VR ρ ka x → x = .int .i64 S.k)
    (hf : ∀ f ∈ facts, f.1.ev (symTab B S.vals) = some (.bool f.2)) : (renv K ka (symTab B S.vals) (oldOf W) facts).OK := by
  have lat : ∀ {base : Nat} {w : World} {con : FuncId → List AV → Option AV} {opc opn : Op → (Operand → AV) → Option AV}, (envR.plus con opc opn (symTab B S.vals) (oldOf W) rtys facts).Still base w → Later W w := by
    intro base w con opc opn hst
    have hs : ∀ k, k < W.heap.size → w.heap[k]? = W.heap[k]? := fun k hk => by
      have hb : Nat.blt k W.heap.size = true := by simpa [Nat.blt_eq] using hk
      exact (hst.2 k W.heap[k]? (by show oldOf W k = _; simp [oldOf, hb])).2
    refine ⟨?_, hs⟩
    rcases Nat.lt_or_ge w.heap.size W.heap.size with hlt | hge
    · exfalso
      have h1 := hs w.heap.size hlt
      rw [Array.getElem?_eq_none (Nat.le_refl _), Array.getElem?_eq_getElem hlt] at h1
      cases h1
    · exact hge
  refine envR_ok.plus ?_ ?_ (fun _ _ _ h => by cases h) rtys_ok hf
  · intro f args v hv base ρ w vals hst hle hb ha
    have hL := lat hst
    have fin : ∀ {c : Value} {x : Array Value}, vals.toArray = x → Calls Tryz.prog f x w (fun e w' => e = .returned c ∧ RowKit.Below w.heap.size w w') → VR ρ v c →
        Calls env.P f vals.toArray w fun e w' => ∃ x, e = .returned x ∧ VR ρ v x ∧ RowKit.Below w.heap.size w w' := by
      rintro c x rfl hcall hvr
      refine Calls.mono hcall fun e w' he => ?_
      obtain ⟨rfl, hbel⟩ := he
      exact ⟨_, rfl, hvr, hbel⟩
    have opt : ∀ {o : Option Bool}, optB o = some v → ∃ b, o = some b ∧ v = .lit (.bool b) := by
      intro o h
      cases o with
      | none => cases h
      | some b => simp only [optB, Option.some.injEq] at h; exact ⟨b, rfl, h.symm⟩
    have vb : ∀ {b : Bool}, v = .lit (.bool b) → VR ρ v (.bool b) := by
      rintro b rfl
      simp only [VR]
    have two : ∀ {a b : FuncId}, (Nat.beq f a || Nat.beq f b) = true → f = a ∨ f = b := by
      intro a b h
      simp only [Bool.or_eq_true] at h
      exact h.imp (fun h => Nat.eq_of_beq_eq_true h) fun h => Nat.eq_of_beq_eq_true h
    unfold rcon at hv
    split at hv
    · simp only [VRs] at ha
      obtain ⟨x, _, rfl, hx, rfl⟩ := ha
      have hx := Ck.ex_val hle (k := 0) (v := .float .f64 S.lo) rfl hx
      subst hx
      split at hv
      · rename_i hff
        obtain ⟨b, hb1, hvb⟩ := opt hv
        rcases two hff with rfl | rfl
        · exact fin rfl (H.h1 b hb1 w).1 (vb hvb)
        · exact fin rfl (H.h1 b hb1 w).2 (vb hvb)
      · split at hv
        · rename_i hff
          simp only [Bool.and_eq_true] at hff
          simp only [Option.some.injEq] at hv
          subst hv
          have ht := H.ht hff.2 w hL
          rcases two hff.1 with rfl | rfl
          · exact fin rfl ht.1 (Ck.ex_VR hle (k := 5) rfl rfl)
          · exact fin rfl ht.2.1 (Ck.ex_VR hle (k := 5) rfl rfl)
        · cases hv
    · simp only [VRs] at ha
      obtain ⟨x, _, rfl, hx, rfl⟩ := ha
      have hx := Ck.ex_val hle (k := 1) (v := .float .f64 S.hi) rfl hx
      subst hx
      split at hv
      · rename_i hff
        obtain ⟨b, hb1, hvb⟩ := opt hv
        rcases two hff with rfl | rfl
        · exact fin rfl (H.h2 b hb1 w).1 (vb hvb)
        · exact fin rfl (H.h2 b hb1 w).2 (vb hvb)
      · split at hv
        · rename_i hff
          simp only [Bool.and_eq_true] at hff
          simp only [Option.some.injEq] at hv
          subst hv
          have ht := H.ht hff.2 w hL
          rcases two hff.1 with rfl | rfl
          · exact fin rfl ht.2.2.1 (Ck.ex_VR hle (k := 6) rfl rfl)
          · exact fin rfl ht.2.2.2 (Ck.ex_VR hle (k := 6) rfl rfl)
        · cases hv
    · split at hv
      · rename_i hff
        simp only [Bool.and_eq_true] at hff
        have := Nat.eq_of_beq_eq_true hff.1
        subst this
        simp only [Option.some.injEq] at hv
        subst hv
        simp only [VRs] at ha
        obtain ⟨x, _, rfl, hx, rfl⟩ := ha
        have hx := Ck.ex_val hle (k := 2) (v := S.l) rfl hx
        subst hx
        refine Calls.mono (H.hc hff.2 w hL) fun e w' he => ?_
        obtain ⟨⟨x, rfl, ho⟩, hbel⟩ := he
        exact ⟨x, rfl, by simpa only [VR] using ho, hbel⟩
      · cases hv
    · rename_i y
      split at hv
      · rename_i hff
        simp only [Bool.and_eq_true] at hff
        have := Nat.eq_of_beq_eq_true hff.1
        subst this
        obtain ⟨b, hb1, hvb⟩ := opt hv
        simp only [VRs] at ha
        obtain ⟨x, _, rfl, hx, y, _, rfl, hy, rfl⟩ := ha
        have hx := Ck.ex_val hle (k := 2) (v := S.l) rfl hx
        subst hx
        obtain rfl := is149_ok hff.2 hy
        exact fin rfl (H.hbad b hb1 w hL) (vb hvb)
      · cases hv
    · rename_i l
      split at hv
      · rename_i hff
        split at hv
        · rename_i hsa
          have hl := sameAll_ok hsa
          subst hl
          obtain ⟨b, hb1, hvb⟩ := opt hv
          simp only [VRs] at ha
          obtain ⟨x, _, rfl, hx, rfl⟩ := ha
          simp only [VR] at hx
          obtain ⟨cs, rfl, hx⟩ := hx
          have hcs : cs = S.row.toArray := Array.ext' (row_det hle H.hka (hk ρ hle) hx)
          subst hcs
          have hB := H.hr b hb1 w hL
          rcases two hff with rfl | rfl
          · exact fin rfl hB.1 (vb hvb)
          · exact fin rfl hB.2 (vb hvb)
        · cases hv
      · cases hv
    · cases hv
  · intro op gg v hv base ρ w e hst hle hx o ho
    have hL := lat hst
    have val : ∀ {k : Nat} {u : Value} {x : Operand}, gg x = .ex (.sym k) → S.vals[k]? = some u → e x = u := fun {k u x} hgx hk => Ck.ex_val hle hk (by rw [← hgx]; exact hx x)
    cases op with
    | call c =>
      simp only [ropc] at hv
      split at hv
      · rename_i hcal
        split at hv
        · rename_i t ht
          split at hv
          · rename_i x hargs
            split at hv
            · rename_i hgx
              split at hv
              · rename_i hb
                have hb := Nat.eq_of_beq_eq_true hb
                subst hb
                simp only [Option.some.injEq] at hv
                subst hv
                obtain ⟨a, cap, h1'⟩ := H.hl
                have hex := val (u := S.l) hgx rfl
                rw [h1'] at hex
                exact ⟨.int .i64 S.n, hook_len ho hcal ht hargs Tryz.underlying41 hex w, Ck.ex_VR hle (k := 3) rfl rfl⟩
              · cases hv
            · rename_i hgx
              split at hv
              · rename_i hb
                simp only [Bool.and_eq_true] at hb
                have hb1 := Nat.eq_of_beq_eq_true hb.1
                subst hb1
                simp only [Option.some.injEq] at hv
                subst hv
                obtain ⟨x1, o1, c1, x2, o2, c2, k1, k2, k3, k4, k5, k6, k7, k8⟩ := H.hm hb.2
                have hex := val (u := S.s) hgx rfl
                rw [k1] at hex
                exact ⟨_, hook_len ho hcal ht hargs Tryz.underlying82 hex w, by simp only [VR]; rfl⟩
              · cases hv
            · rename_i hgx
              split at hv
              · rename_i hb
                simp only [Bool.and_eq_true] at hb
                have hb1 := Nat.eq_of_beq_eq_true hb.1
                subst hb1
                simp only [Option.some.injEq] at hv
                subst hv
                obtain ⟨x1, o1, c1, x2, o2, c2, k1, k2, k3, k4, k5, k6, k7, k8⟩ := H.hm hb.2
                have hex := val (u := S.c) hgx rfl
                rw [k3] at hex
                exact ⟨_, hook_len ho hcal ht hargs Tryz.underlying79 hex w, by simp only [VR]; rfl⟩
              · cases hv
            · cases hv
          · cases hv
        · cases hv
      · cases hv
    | indexAddr t x i =>
      simp only [ropc] at hv
      split at hv
      · rename_i hgx
        split at hv
        · rename_i hb
          simp only [Bool.and_eq_true] at hb
          have hb1 := Nat.eq_of_beq_eq_true hb.1.1
          subst hb1
          simp only [Option.some.injEq] at hv
          subst hv
          obtain ⟨x1, o1, c1, x2, o2, c2, k1, k2, k3, k4, k5, k6, k7, k8⟩ := H.hm hb.1.2
          have hex := val (u := S.s) hgx rfl
          rw [k1] at hex
          have hei := isZ_ok hb.2 (hx i)
          obtain ⟨inf, hinf, hsz⟩ := info81
          refine ⟨_, hook_index ho Tryz.underlying82 hinf hex hei (by omega) w, Ck.ex_VR hle (k := 8) ?_ rfl⟩
          show some S.p = _
          rw [k2]
          simp
        · cases hv
      · rename_i hgx
        split at hv
        · rename_i hb
          simp only [Bool.and_eq_true] at hb
          have hb1 := Nat.eq_of_beq_eq_true hb.1.1
          subst hb1
          simp only [Option.some.injEq] at hv
          subst hv
          obtain ⟨x1, o1, c1, x2, o2, c2, k1, k2, k3, k4, k5, k6, k7, k8⟩ := H.hm hb.1.2
          have hex := val (u := S.c) hgx rfl
          rw [k3] at hex
          have hei := isZ_ok hb.2 (hx i)
          obtain ⟨inf, hinf, hsz⟩ := info78
          refine ⟨_, hook_index ho Tryz.underlying79 hinf hex hei (by omega) w, Ck.ex_VR hle (k := 10) ?_ rfl⟩
          show some S.q = _
          rw [k4]
          simp
        · cases hv
      · cases hv
    | binOp o' t x y ty =>
      simp only [ropc] at hv
      split at hv
      · split at hv
        · rename_i htx
          split at hv
          · rename_i k hk
            simp only [Option.some.injEq] at hv
            subst hv
            obtain ⟨z1, z2⟩ := H.hs htx
            exact cat_run hle z1 z2 (catFind_ok hk) (hx x) (hx y) ho w
          · cases hv
        · cases hv
      · cases hv
    | load t p =>
      simp only [ropc] at hv
      split at hv
      · rename_i hgx
        split at hv
        · rename_i hb
          simp only [Bool.and_eq_true] at hb
          have hb1 := Nat.eq_of_beq_eq_true hb.1
          subst hb1
          simp only [Option.some.injEq] at hv
          subst hv
          obtain ⟨x1, o1, c1, x2, o2, c2, k1, k2, k3, k4, k5, k6, k7, k8⟩ := H.hm hb.2
          have hex := val (u := S.p) hgx rfl
          rw [k2] at hex
          obtain ⟨inf, hinf, hsz⟩ := info81
          have hr := Ck.range_later hL.2 k5 k7
          refine ⟨_, hook_load ho Tryz.underlying81 rfl hinf (by rw [hsz]; rfl) hex hr, ?_⟩
          simp only [VR]
          refine ⟨_, rfl, ?_⟩
          simp only [VRs]
          refine ⟨_, _, rfl, by simp only [VR], _, _, rfl, Ck.ex_VR hle (k := 9) rfl ?_, rfl⟩
          rw [k3]
          rfl
        · cases hv
      · rename_i hgx
        split at hv
        · rename_i hb
          simp only [Bool.and_eq_true] at hb
          have hb1 := Nat.eq_of_beq_eq_true hb.1
          subst hb1
          simp only [Option.some.injEq] at hv
          subst hv
          obtain ⟨x1, o1, c1, x2, o2, c2, k1, k2, k3, k4, k5, k6, k7, k8⟩ := H.hm hb.2
          have hex := val (u := S.q) hgx rfl
          rw [k4] at hex
          obtain ⟨inf, hinf, hsz⟩ := info78
          have hr := Ck.range_later hL.2 k6 k8
          refine ⟨_, hook_load ho Tryz.underlying78 rfl hinf (by rw [hsz]; rfl) hex hr, ?_⟩
          simp only [VR]
          refine ⟨_, rfl, ?_⟩
          exact VRs.append (VRs.lits _) (row_VR hle H.hka H.hl)
        · cases hv
      · cases hv
    | _ => cases hv
end Go.Proofs.YtkeibmkcgnppeaaGreatDoor.Ru
namespace Go.Proofs.YtkeibmkcgnppeaaGreatDoor.Ru
open Go Go.Proofs.YtkeibmkcgnppeaaGreatDoor.Rx
set_option maxRecDepth 100000
def lk (k : Int) : AV := .lit (.int .i64 k)
def cmpN (o : BinOp) (c : Int) : Exp := .bin o (.sym 3) (.lit (.int .i64 c))
def ordE : Exp := .bin .leq (.sym 0) (.sym 1)
def zE (o : BinOp) (k : Nat) : Exp := .bin o (.sym k) (.lit (.float .f64 0))
noncomputable def chkT (f : FuncId) (ka : AV) (b : Bool) (E : Env) : Bool := Ck.saysB b (ans (eval E 200 (.call (.fn f) [.agg (ruleRow ka)] ⟨32, .leaf⟩)))
def K2 (b1 b2 : Bool) : Kn := { b1 := some b1, b2 := some b2 }
def K4 (b1 b2 bad : Bool) : Kn := { b1 := some b1, b2 := some b2, bad := some bad }
def f3 (q z : Bool) : List (Exp × Bool) := [(ordE, q), (cmpN .eql 0, z)]
def f0 (z1 z2 z : Bool) : List (Exp × Bool) := [(zE .eql 0, z1), (zE .eql 1, z2), (cmpN .eql 0, z)]
def f4 (z1 z2 g l : Bool) : List (Exp × Bool) := [(zE .eql 0, z1), (zE .eql 1, z2), (cmpN .gtr 0, g), (cmpN .leq 64, l)]
def f4' (z1 z2 g l : Bool) : List (Exp × Bool) := [(zE .neq 0, !z1), (zE .neq 1, !z2), (cmpN .lss 1, !g), (cmpN .gtr 64, !l)]
section
variable (sy : Rx.Place) (old : Nat → Option (Option Obj))
theorem p1 (b1 b2 q z : Bool) : chkT 107 (lk 1) (b1 && b2 && q && z) (renv (K2 b1 b2) (lk 1) sy old (f3 q z)) = true := by
  cases b1 <;> cases b2 <;> cases q <;> cases z <;> (as_aux_lemma => kernel_rfl)
theorem p2 (b1 b2 q z : Bool) : chkT 107 (lk 2) (b1 && b2 && q && z) (renv (K2 b1 b2) (lk 2) sy old (f3 q z)) = true := by
  cases b1 <;> cases b2 <;> cases q <;> cases z <;> (as_aux_lemma => kernel_rfl)
theorem p3 (b1 b2 q z : Bool) : chkT 107 (lk 3) (b1 && b2 && q && z) (renv (K2 b1 b2) (lk 3) sy old (f3 q z)) = true := by
  cases b1 <;> cases b2 <;> cases q <;> cases z <;> (as_aux_lemma => kernel_rfl)
theorem d1 (b1 b2 q z : Bool) : chkT 34 (lk 1) (b1 && b2 && q && z) (renv (K2 b1 b2) (lk 1) sy old (f3 q z)) = true := by
  cases b1 <;> cases b2 <;> cases q <;> cases z <;> (as_aux_lemma => kernel_rfl)
theorem d2 (b1 b2 q z : Bool) : chkT 34 (lk 2) (b1 && b2 && q && z) (renv (K2 b1 b2) (lk 2) sy old (f3 q z)) = true := by
  cases b1 <;> cases b2 <;> cases q <;> cases z <;> (as_aux_lemma => kernel_rfl)
theorem d3 (b1 b2 q z : Bool) : chkT 34 (lk 3) (b1 && b2 && q && z) (renv (K2 b1 b2) (lk 3) sy old (f3 q z)) = true := by
  cases b1 <;> cases b2 <;> cases q <;> cases z <;> (as_aux_lemma => kernel_rfl)
theorem p0 (b1 b2 z1 z2 z : Bool) : chkT 107 (lk 0) (z1 && b1 && z2 && b2 && z) (renv (K2 b1 b2) (lk 0) sy old (f0 z1 z2 z)) = true := by
  cases b1 <;> cases b2 <;> cases z1 <;> cases z2 <;> cases z <;> (as_aux_lemma => kernel_rfl)
theorem d0 (b1 b2 z1 z2 z : Bool) : chkT 34 (lk 0) (z1 && b1 && z2 && b2 && z) (renv (K2 b1 b2) (lk 0) sy old (f0 z1 z2 z)) = true := by
  cases b1 <;> cases b2 <;> cases z1 <;> cases z2 <;> cases z <;> (as_aux_lemma => kernel_rfl)
theorem p4 (b1 b2 bad z1 z2 g : Bool) : chkT 107 (lk 4) (z1 && b1 && z2 && b2 && g && !bad) (renv (K4 b1 b2 bad) (lk 4) sy old (f4 z1 z2 g true)) = true := by
  cases b1 <;> cases b2 <;> cases bad <;> cases z1 <;> cases z2 <;> cases g <;> (as_aux_lemma => kernel_rfl)
theorem p4n (b1 b2 z1 z2 g : Bool) : chkT 107 (lk 4) false (renv (K2 b1 b2) (lk 4) sy old (f4 z1 z2 g false)) = true := by
  cases b1 <;> cases b2 <;> cases z1 <;> cases z2 <;> cases g <;> (as_aux_lemma => kernel_rfl)
theorem d4 (b1 b2 z1 z2 g l : Bool) (h : (z1 && b1 && z2 && b2 && g && l) = false) : chkT 34 (lk 4) false (renv (K2 b1 b2) (lk 4) sy old (f4' z1 z2 g l)) = true := by
  cases b1 <;> cases b2 <;> cases z1 <;> cases z2 <;> cases g <;> cases l <;> first | exact absurd h (by decide) | (as_aux_lemma => kernel_rfl)
end
end Go.Proofs.YtkeibmkcgnppeaaGreatDoor.Ru
namespace Go.Proofs.YtkeibmkcgnppeaaGreatDoor
open Go Go.RowKit
set_option maxRecDepth 100000
attribute [local go_sem ↓] Go.wp_at_zero Go.wp_at_succ
theorem rule34_list {W : World} (hg : Ck.Consts W) (hT : Ck.Tabs W) {a : Option Addr} {n c : Nat} {tx : Nat → ByteArray} (hx : TextsAt W a n tx) (h1 : 1 ≤ n) (h64 : n ≤ 64) (w : World) (hw : Ck.Later W w) :
    Calls Tryz.prog 34 #[.agg #[.int .i64 4, .float .f64 0, .float .f64 0, .slice a n c]] w fun e w' => e = .returned (.bool (!anyBad tx n)) ∧ Below w.heap.size w w' := by
  have Hw := Lib.hid hw
  have HT := Lib.hid hT
  have Hg := Lib.hid hg
  have Hx := Lib.hid hx
  clear hw hT hg hx
  have hr : ∀ w, (binOp .neq 22 (.float .f64 0) (.float .f64 0)).run Tryz.prog w = .ok (.bool false) w := fun w => by
    rw [run_fneq, show FloatKind.f64.format.order 0 0 = some .eq by decide +kernel]
    rfl
  have c72 := fun w => nought72 (v := 0) false (.inl ⟨rfl, rfl⟩) w
  have hn1 : ¬ (n : Int) < 1 := by omega
  have hn2 : ¬ (64 : Int) < (n : Int) := by omega
  go_enter Tryz.func34, Tryz.ntmps34
  go_wp2_with (go_at_call 72; refine (c72 _).mono ?_; rintro e w' ⟨rfl, rfl⟩)
  go_loopw [3] (fun i wr => ∃ j : Nat, j ≤ n ∧ i = .int .i64 j ∧ anyBad tx j = false ∧ Below w.heap.size w wr ∧ wr.cell? ⟨w.heap.size, 3, none⟩ = some (.slice a n c)) (fun i _ => n - (intOf i).toNat)
  case atStart => exact ⟨0, Nat.zero_le _, rfl, rfl, (Below.refl _ _).alloc (Nat.le_refl _) _, by unfold World.cell?; rw [heap_alloc_new]; rfl⟩
  case round =>
    obtain ⟨j, hj, rfl, hb, hbw, hbox⟩ := hrel
    rcases Nat.lt_or_ge j n with hlt | hge
    · have hl : Ck.Later W wr := ⟨Nat.le_trans Hw.out.1 hbw.size, fun k hk => (hbw.block k (Nat.lt_of_lt_of_le hk Hw.out.1)).trans (Hw.out.2 k hk)⟩
      obtain ⟨b, off, rfl, hlo, hcell⟩ := Hx.out.el j hlt
      have hc2 : wr.cell? ⟨b, off + j, none⟩ = some (.string (tx j)) := by
        simp only [World.cell?] at hcell ⊢
        rw [hl.2 b hlo]
        exact hcell
      have cM := valid73 Hg.out HT.out (tx j) (Hx.out.sz j hlt) wr hl
      have hjz : (j : Int) < (n : Int) := by omega
      have hj0 : (0 : Int) ≤ (j : Int) := by omega
      have hblt : w.heap.size < wr.heap.size := by
        rcases Nat.lt_or_ge w.heap.size wr.heap.size with h | h
        · exact h
        · exfalso
          simp [World.cell?, Array.getElem?_eq_none h] at hbox
      have keep : ∀ W2 : World, Below wr.heap.size wr W2 → W2.cell? ⟨w.heap.size, 3, none⟩ = some (.slice (some ⟨b, off, none⟩) n c) := fun W2 h => by
        rw [h.cell hblt]
        exact hbox
      generalize hs : tx j = s at cM hc2
      have hss : s.toList.isEmpty = decide (s.size = 0) := by
        rw [Bool.eq_iff_iff, decide_eq_true_eq, ByteArray.toList_eq, List.isEmpty_iff_length_eq_zero]
        exact Iff.rfl
      clear hcell hl
      by_cases h0 : s.size = 0
      · have h1 : s.toList.isEmpty = true := by rw [hss]; simpa using h0
        have h2 : badText (tx j) = true := by rw [hs]; simp [badText, h0]
        have h3 := anyBad_of h2 hlt
        clear hss h2 cM hs
        go_wp2_with fail
        go_ret
        refine ⟨?_, hbw⟩
        show Ending.returned (.bool false) = Ending.returned (.bool (!anyBad tx n))
        rw [h3]
        rfl
      · have h1 : s.toList.isEmpty = false := by rw [hss]; simpa using h0
        have h2 : badText s = (decide (255 < s.size) || !validT s) := by simp [badText, h0]
        by_cases h3 : 255 < s.size
        · have h4 : (255 : Int) < (s.size : Int) := by omega
          have h5 : decide (255 < s.size) = true := by simpa using h3
          have h2' : badText (tx j) = true := by rw [hs, h2, h5]; rfl
          have h6 := anyBad_of h2' hlt
          clear hss h2 h2' cM hs
          go_wp2_with fail
          go_ret
          refine ⟨?_, hbw⟩
          show Ending.returned (.bool false) = Ending.returned (.bool (!anyBad tx n))
          rw [h6]
          rfl
        · have h4 : ¬ (255 : Int) < (s.size : Int) := by omega
          have h5 : decide (255 < s.size) = false := by simpa using h3
          generalize hq : validT s = q at cM
          have h6 : badText (tx j) = !q := by rw [hs, h2, h5, hq]; rfl
          clear hss h2 hs
          cases q
          · have h7 := anyBad_of h6 hlt
            go_wp2_with (go_at_call 73; refine cM.mono ?_; rintro e W2 ⟨rfl, hb2⟩)
            go_ret
            refine ⟨?_, hbw.trans (hb2.mono hbw.size)⟩
            show Ending.returned (.bool false) = Ending.returned (.bool (!anyBad tx n))
            rw [h7]
            rfl
          · go_wp2_with (go_at_call 73; refine cM.mono ?_; rintro e W2 ⟨rfl, hb2⟩)
            exact ⟨⟨j + 1, by omega, by go_num, by simp only [anyBad, hb, h6, Bool.not_true, Bool.or_self], hbw.trans (hb2.mono hbw.size), keep _ hb2⟩, round_measure hlt⟩
    · obtain rfl : j = n := by omega
      have hjz : ¬ (j : Int) < (j : Int) := by omega
      go_wp2_with fail
      go_ret
      exact ⟨rfl, hbw⟩
end Go.Proofs.YtkeibmkcgnppeaaGreatDoor

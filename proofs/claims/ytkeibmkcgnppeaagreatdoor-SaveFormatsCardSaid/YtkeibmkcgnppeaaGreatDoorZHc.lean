/- Both tests of a rule answer alike; both makers of a condition answer alike on all rules but lists. -/
import Derived.Test.YtkeibmkcgnppeaaGreatDoorZHb
namespace Go.Proofs.YtkeibmkcgnppeaaGreatDoor.Ru
open Go Go.Proofs.YtkeibmkcgnppeaaGreatDoor.Rx
set_option maxRecDepth 100000
theorem order0 {v : Nat} (h64 : v < 18446744073709551616) : v = 0 ∨ v = 9223372036854775808 ∨ (FloatKind.f64.format.order v 0 == some .eq) = false := by
  by_cases h0 : absB v = 0
  · have hz : v = 0 ∨ v = 9223372036854775808 := by unfold absB at h0; omega
    rcases hz with h | h
    · exact .inl h
    · exact .inr (.inl h)
  · refine .inr (.inr ?_)
    rcases Nat.lt_or_ge (absB v) 9218868437227405312 with hlt | hge
    · have F := fin_of (v := v) (by omega) hlt
      simpa using F.nought
    · by_cases hi : absB v = 9218868437227405312
      · have hz : v = 9218868437227405312 ∨ v = 18442240474082181120 := by unfold absB at hi; omega
        rcases hz with rfl | rfl <;> decide +kernel
      · have hg : 9218868437227405312 < absB v := by omega
        rw [Go.Proofs.YtkeibmkcgnppeaaGreatDoor.Rx.order_nan (by unfold absB at hg; exact hg)]
        rfl
theorem fin3 {v : Nat} (h64 : v < 18446744073709551616) : ∃ b : Bool, FinBoth v b ∧ (b = true → absB v < 9218868437227405312 ∧ v ≠ 9223372036854775808) := by
  have st : ∀ {w : World} {b : Bool} {e : Ending} {w' : World}, e = .returned (.bool b) ∧ w' = w → e = .returned (.bool b) ∧ RowKit.Below w.heap.size w w' := by
    rintro w b e w' ⟨h, rfl⟩
    exact ⟨h, RowKit.Below.refl _ _⟩
  by_cases h : v = 9223372036854775808
  · subst h
    exact ⟨false, fun w => ⟨(nought148 true (.inr ⟨rfl, rfl⟩) w).mono fun _ _ h => st h, (nought72 true (.inr ⟨rfl, rfl⟩) w).mono fun _ _ h => st h⟩, fun h => Bool.noConfusion h⟩
  · obtain ⟨b, h1, h2⟩ := finite_both h64
    exact ⟨b, h2, fun hb => ⟨h1 hb, h⟩⟩
theorem fl_ev {b : Nat} {S : RV} {o : BinOp} {r : Bool} (h : Go.binOp o 0 (.float .f64 S.lo) (.float .f64 0) = pure (.bool r)) : (zE o 0).ev (symTab b S.vals) = some (.bool r) := by
  show evBin o (.float .f64 S.lo) (.float .f64 0) = _
  simp [evBin, h, pure0, pure]
theorem fh_ev {b : Nat} {S : RV} {o : BinOp} {r : Bool} (h : Go.binOp o 0 (.float .f64 S.hi) (.float .f64 0) = pure (.bool r)) : (zE o 1).ev (symTab b S.vals) = some (.bool r) := by
  show evBin o (.float .f64 S.hi) (.float .f64 0) = _
  simp [evBin, h, pure0, pure]
theorem eql_pure (a c : Nat) : Go.binOp .eql 0 (.float .f64 a) (.float .f64 c) = pure (.bool (FloatKind.f64.format.order a c == some .eq)) := by simp [Go.binOp, Op.floatCmp]
theorem neq_pure (a c : Nat) : Go.binOp .neq 0 (.float .f64 a) (.float .f64 c) = pure (.bool !(FloatKind.f64.format.order a c == some .eq)) := by simp [Go.binOp, Op.floatCmp, bne]
theorem leq_pure (a c : Nat) : ∃ q : Bool, Go.binOp .leq 0 (.float .f64 a) (.float .f64 c) = pure (.bool q) :=
  ⟨FloatKind.f64.format.order a c == some .lt || FloatKind.f64.format.order a c == some .eq, by simp [Go.binOp, Op.floatCmp]⟩
theorem ord_ev {b : Nat} {S : RV} {q : Bool} (h : Go.binOp .leq 0 (.float .f64 S.lo) (.float .f64 S.hi) = pure (.bool q)) : ordE.ev (symTab b S.vals) = some (.bool q) := by
  show evBin .leq (.float .f64 S.lo) (.float .f64 S.hi) = _
  simp [evBin, h, pure0, pure]
theorem n_ev {b : Nat} {S : RV} {o : BinOp} {c : Int} {r : Bool} (h : cmpInt o S.n c = some r) : (cmpN o c).ev (symTab b S.vals) = some (.bool r) := by
  show evBin o (.int .i64 S.n) (.int .i64 c) = _
  exact cmpInt_ev h
theorem facts_cons {σ : Rx.Place} {e : Exp} {b : Bool} {l : List (Exp × Bool)} (h : e.ev σ = some (.bool b)) (h' : ∀ f ∈ l, f.1.ev σ = some (.bool f.2)) : ∀ f ∈ (e, b) :: l, f.1.ev σ = some (.bool f.2) := by
  intro f hf
  rcases List.mem_cons.1 hf with rfl | hf
  · exact h
  · exact h' f hf
theorem facts_nil {σ : Rx.Place} : ∀ f ∈ ([] : List (Exp × Bool)), f.1.ev σ = some (.bool f.2) := fun f hf => by cases hf
theorem lk_VR {ρ : Rx.Place} (k : Int) : VR ρ (lk k) (.int .i64 k) := by simp only [lk, VR]
theorem lk_det {ρ : Rx.Place} {k : Int} {x : Value} (h : VR ρ (lk k) x) : x = .int .i64 k := by simpa only [lk, VR] using h
theorem fin_rule {W : World} (hg : Consts W) {S : RV} {K : Kn} {ka : AV} {f : FuncId} {b : Bool} {facts : List (Exp × Bool)} (Hh : Holds W W.heap.size S K ka) (hk : ∀ ρ : Rx.Place, (symTab W.heap.size S.vals).le ρ → ∀ x, VR ρ ka x → x = .int .i64 S.k)
    (hf : ∀ f ∈ facts, f.1.ev (symTab W.heap.size S.vals) = some (.bool f.2)) (h : ∀ sy old, chkT f ka b (renv K ka sy old facts) = true) :
    ∀ w, Later W w → Calls Tryz.prog f #[.agg S.row.toArray] w fun e w' => e = .returned (.bool b) ∧ RowKit.Below w.heap.size w w' := by
  intro w hw
  have hv : VRs (symTab W.heap.size S.vals) [.agg (ruleRow ka)] [.agg S.row.toArray] := by
    simp only [VRs, VR]
    exact ⟨_, _, rfl, ⟨_, rfl, row_VR (.refl _) Hh.hka Hh.hl⟩, rfl⟩
  have st : (renv K ka (symTab W.heap.size S.vals) (oldOf W) facts).Still W.heap.size w :=
    hw.still hg (con := fun _ _ => none) (opc := fun _ _ => none) (opn := fun _ _ => none) (sy := symTab W.heap.size S.vals) (tys := rtys) (facts := facts)
  exact sym_call (renv_ok Hh hk hf) (Ck.saysB_ok (h _ _)) w rfl hw.1 (show 18 ≤ 32 by decide) st hv
theorem holds2 {W : World} {S : RV} {b1 b2 : Bool} (h1 : FinBoth S.lo b1) (h2 : FinBoth S.hi b2) (hl : ∃ a c, S.l = .slice a S.n c) : Holds W W.heap.size S (K2 b1 b2) (lk S.k) where
  h1 := fun b h => by cases h; exact h1
  h2 := fun b h => by cases h; exact h2
  hbad := fun b h => by cases h
  hr := fun b h => by cases h
  ht := fun h => by cases h
  hs := fun h => by cases h
  hc := fun h => by cases h
  hl := hl
  hka := lk_VR _
  hm := fun h => by cases h
theorem holds4 {W : World} {S : RV} {b1 b2 bad : Bool} (h1 : FinBoth S.lo b1) (h2 : FinBoth S.hi b2) (hl : ∃ a c, S.l = .slice a S.n c)
    (hb : ∀ w, Later W w → Calls Tryz.prog 150 #[S.l, .func (.func 149) #[] #[]] w fun e w' => e = .returned (.bool bad) ∧ RowKit.Below w.heap.size w w') : Holds W W.heap.size S (K4 b1 b2 bad) (lk S.k) where
  h1 := fun b h => by cases h; exact h1
  h2 := fun b h => by cases h; exact h2
  hbad := fun b h => by cases h; exact hb
  hr := fun b h => by cases h
  ht := fun h => by cases h
  hs := fun h => by cases h
  hc := fun h => by cases h
  hl := hl
  hka := lk_VR _
  hm := fun h => by cases h
structure GoodRule (k : Int) (lo hi n : Nat) (tx : Nat → ByteArray) : Prop where
  flo : absB lo < 9218868437227405312
  fhi : absB hi < 9218868437227405312
  kind : k = 0 ∨ ((k = 1 ∨ k = 2 ∨ k = 3) ∧ n = 0) ∨ (k = 4 ∧ lo = 0 ∧ hi = 0 ∧ 1 ≤ n ∧ n ≤ 64 ∧ anyBad tx n = false)
def ruleV (k : Int) (lo hi : Nat) (a : Option Addr) (n c : Nat) : Value := .agg #[.int .i64 k, .float .f64 lo, .float .f64 hi, .slice a n c]
theorem and5 {a b c d e : Bool} (h : (a && b && c && d && e) = true) : a = true ∧ b = true ∧ c = true ∧ d = true ∧ e = true := by
  simpa only [Bool.and_eq_true, and_assoc] using h
theorem rule_both {W : World} (hg : Consts W) (hT : Ck.Tabs W) (k : Int) {lo hi : Nat} (hlo : lo < 18446744073709551616) (hhi : hi < 18446744073709551616) {a : Option Addr} {n c : Nat} {tx : Nat → ByteArray} (hx : TextsAt W a n tx) :
    ∃ r, Ck.Both W 107 34 #[ruleV k lo hi a n c] r ∧ (r = true → GoodRule k lo hi n tx) := by
  obtain ⟨b1, hb1, hf1⟩ := fin3 hlo
  obtain ⟨b2, hb2, hf2⟩ := fin3 hhi
  have three : (k = 1 ∨ k = 2 ∨ k = 3) → ∃ r, Ck.Both W 107 34 #[ruleV k lo hi a n c] r ∧ (r = true → GoodRule k lo hi n tx) := by
    intro hk
    obtain ⟨q, hq⟩ := leq_pure lo hi
    refine ⟨b1 && b2 && q && decide (n = 0), ?_, ?_⟩
    · have hf : ∀ f ∈ f3 q (decide (n = 0)), f.1.ev (symTab W.heap.size (RV.vals { lo := lo, hi := hi, l := .slice a n c, n := n, k := k })) = some (.bool f.2) :=
        facts_cons (ord_ev (S := { lo := lo, hi := hi, l := .slice a n c, n := n, k := k }) hq) (facts_cons (n_ev (by simp [cmpInt])) facts_nil)
      have Hh := holds2 (W := W) (S := { lo := lo, hi := hi, l := .slice a n c, n := n, k := k }) hb1 hb2 ⟨a, c, rfl⟩
      rcases hk with rfl | rfl | rfl
      · exact fun w hw => ⟨fin_rule hg Hh (fun _ _ _ h => lk_det h) hf (fun sy old => p1 sy old b1 b2 q _) w hw, fin_rule hg Hh (fun _ _ _ h => lk_det h) hf (fun sy old => d1 sy old b1 b2 q _) w hw⟩
      · exact fun w hw => ⟨fin_rule hg Hh (fun _ _ _ h => lk_det h) hf (fun sy old => p2 sy old b1 b2 q _) w hw, fin_rule hg Hh (fun _ _ _ h => lk_det h) hf (fun sy old => d2 sy old b1 b2 q _) w hw⟩
      · exact fun w hw => ⟨fin_rule hg Hh (fun _ _ _ h => lk_det h) hf (fun sy old => p3 sy old b1 b2 q _) w hw, fin_rule hg Hh (fun _ _ _ h => lk_det h) hf (fun sy old => d3 sy old b1 b2 q _) w hw⟩
    · intro h
      simp only [Bool.and_eq_true, decide_eq_true_eq] at h
      exact ⟨(hf1 h.1.1.1).1, (hf2 h.1.1.2).1, .inr (.inl ⟨hk, h.2⟩)⟩
  by_cases k0 : k = 0
  · subst k0
    refine ⟨(FloatKind.f64.format.order lo 0 == some .eq) && b1 && (FloatKind.f64.format.order hi 0 == some .eq) && b2 && decide (n = 0), ?_, ?_⟩
    · have hf : ∀ f ∈ f0 (FloatKind.f64.format.order lo 0 == some .eq) (FloatKind.f64.format.order hi 0 == some .eq) (decide (n = 0)), f.1.ev (symTab W.heap.size (RV.vals { lo := lo, hi := hi, l := .slice a n c, n := n, k := 0 })) = some (.bool f.2) :=
        facts_cons (fl_ev (S := { lo := lo, hi := hi, l := .slice a n c, n := n, k := 0 }) (eql_pure _ _)) (facts_cons (fh_ev (S := { lo := lo, hi := hi, l := .slice a n c, n := n, k := 0 }) (eql_pure _ _)) (facts_cons (n_ev (by simp [cmpInt])) facts_nil))
      have Hh := holds2 (W := W) (S := { lo := lo, hi := hi, l := .slice a n c, n := n, k := 0 }) hb1 hb2 ⟨a, c, rfl⟩
      exact fun w hw => ⟨fin_rule hg Hh (fun _ _ _ h => lk_det h) hf (fun sy old => p0 sy old b1 b2 _ _ _) w hw, fin_rule hg Hh (fun _ _ _ h => lk_det h) hf (fun sy old => d0 sy old b1 b2 _ _ _) w hw⟩
    · intro h
      obtain ⟨_, h2, _, h4, _⟩ := and5 h
      exact ⟨(hf1 h2).1, (hf2 h4).1, .inl rfl⟩
  by_cases k1 : k = 1
  · exact three (.inl k1)
  by_cases k2 : k = 2
  · exact three (.inr (.inl k2))
  by_cases k3 : k = 3
  · exact three (.inr (.inr k3))
  by_cases k4 : k = 4
  rotate_left
  · refine ⟨false, fun w hw => ?_, fun h => Bool.noConfusion h⟩
    exact may_other (by simpa using k0) (by simpa using k1) (by simpa using k2) (by simpa using k3) (by simpa using k4) lo hi a n c w
  subst k4
  obtain ⟨z1, hz1⟩ : ∃ z, (FloatKind.f64.format.order lo 0 == some .eq) = z := ⟨_, rfl⟩
  obtain ⟨z2, hz2⟩ : ∃ z, (FloatKind.f64.format.order hi 0 == some .eq) = z := ⟨_, rfl⟩
  have hf : ∀ f ∈ f4 z1 z2 (decide (0 < n)) (decide (n ≤ 64)), f.1.ev (symTab W.heap.size (RV.vals { lo := lo, hi := hi, l := .slice a n c, n := n, k := 4 })) = some (.bool f.2) :=
    facts_cons (fl_ev (S := { lo := lo, hi := hi, l := .slice a n c, n := n, k := 4 }) (by rw [eql_pure, hz1])) (facts_cons (fh_ev (S := { lo := lo, hi := hi, l := .slice a n c, n := n, k := 4 }) (by rw [eql_pure, hz2]))
      (facts_cons (n_ev (by simp [cmpInt]; try omega)) (facts_cons (n_ev (by simp [cmpInt]; try omega)) facts_nil)))
  have hf' : ∀ f ∈ f4' z1 z2 (decide (0 < n)) (decide (n ≤ 64)), f.1.ev (symTab W.heap.size (RV.vals { lo := lo, hi := hi, l := .slice a n c, n := n, k := 4 })) = some (.bool f.2) :=
    facts_cons (fl_ev (S := { lo := lo, hi := hi, l := .slice a n c, n := n, k := 4 }) (by rw [neq_pure, hz1])) (facts_cons (fh_ev (S := { lo := lo, hi := hi, l := .slice a n c, n := n, k := 4 }) (by rw [neq_pure, hz2]))
      (facts_cons (n_ev (by simp only [cmpInt, Option.some.injEq]; rw [← decide_not]; congr 1; exact propext ⟨fun h => by omega, fun h => by omega⟩)) (facts_cons (n_ev (by simp only [cmpInt, Option.some.injEq]; rw [← decide_not]; congr 1; exact propext ⟨fun h => by omega, fun h => by omega⟩)) facts_nil)))
  have Hh := holds2 (W := W) (S := { lo := lo, hi := hi, l := .slice a n c, n := n, k := 4 }) hb1 hb2 ⟨a, c, rfl⟩
  by_cases h64 : n ≤ 64
  rotate_left
  · refine ⟨false, fun w hw => ⟨?_, ?_⟩, fun h => Bool.noConfusion h⟩
    · exact fin_rule hg Hh (fun _ _ _ h => lk_det h) hf (fun sy old => by rw [show decide (n ≤ 64) = false by simpa using h64]; exact p4n sy old b1 b2 z1 z2 _) w hw
    · exact fin_rule hg Hh (fun _ _ _ h => lk_det h) hf' (fun sy old => d4 sy old b1 b2 z1 z2 _ _ (by rw [show decide (n ≤ 64) = false by simpa using h64]; simp)) w hw
  · have H4 := holds4 (W := W) (S := { lo := lo, hi := hi, l := .slice a n c, n := n, k := 4 }) hb1 hb2 ⟨a, c, rfl⟩ (bad := anyBad tx n) fun w hw => contains150 hg hT hx h64 w hw
    refine ⟨z1 && b1 && z2 && b2 && decide (0 < n) && !anyBad tx n, fun w hw => ⟨?_, ?_⟩, ?_⟩
    · exact fin_rule hg H4 (fun _ _ _ h => lk_det h) hf (fun sy old => by rw [show decide (n ≤ 64) = true by simpa using h64]; exact p4 sy old b1 b2 _ z1 z2 _) w hw
    · cases hall : (z1 && b1 && z2 && b2 && decide (0 < n))
      · rw [Bool.false_and]
        exact fin_rule hg Hh (fun _ _ _ h => lk_det h) hf' (fun sy old => d4 sy old b1 b2 z1 z2 _ _ (by rw [hall, Bool.false_and])) w hw
      · rw [Bool.true_and]
        obtain ⟨e1, e2, e3, e4, e5⟩ := and5 hall
        have l0 : lo = 0 := by
          rcases order0 hlo with h | h | h
          · exact h
          · exact absurd h (hf1 e2).2
          · rw [hz1, e1] at h; cases h
        have h0 : hi = 0 := by
          rcases order0 hhi with h | h | h
          · exact h
          · exact absurd h (hf2 e4).2
          · rw [hz2, e3] at h; cases h
        have hn : 0 < n := by simpa using e5
        subst l0 h0
        exact rule34_list hg hT hx hn h64 w hw
    · intro h
      rw [Bool.and_eq_true] at h
      obtain ⟨e1, e2, e3, e4, e5⟩ := and5 h.1
      have l0 : lo = 0 := by
        rcases order0 hlo with h | h | h
        · exact h
        · exact absurd h (hf1 e2).2
        · rw [hz1, e1] at h; cases h
      have h0 : hi = 0 := by
        rcases order0 hhi with h | h | h
        · exact h
        · exact absurd h (hf2 e4).2
        · rw [hz2, e3] at h; cases h
      exact ⟨(hf1 e2).1, (hf2 e4).1, .inr (.inr ⟨rfl, l0, h0, of_decide_eq_true e5, h64, by simpa using h.2⟩)⟩
end Go.Proofs.YtkeibmkcgnppeaaGreatDoor.Ru
namespace Go.Proofs.YtkeibmkcgnppeaaGreatDoor.Ru
open Go Go.Proofs.YtkeibmkcgnppeaaGreatDoor.Rx
set_option maxRecDepth 100000
def condAns (ts : T Ty) : Option Out → Option (AV × Int)
  | some (.call (.ret (.tuple [a, .lit (.int .i64 c)])) _) => match isStr ts a with
    | true => some (a, c)
    | false => none
  | some (.call (.ret (.lit (.tuple ⟨[.string s, .int .i64 c]⟩))) _) => some (.lit (.string s), c)
  | _ => none
theorem sym_cond {E : Env} (OK : E.OK) {k : Nat} {f : FuncId} {args : List AV} {n b : Nat} {a : AV} {c : Int} (h : condAns E.tys (eval E k (.call (.fn f) args ⟨n, .leaf⟩)) = some (a, c)) (w : World)
    {l : List Value} (hsy : E.sy = symTab b l) (hb : b ≤ w.heap.size) (hn : l.length ≤ n) (hs : E.Still b w) {vals : List Value} (ha : VRs (symTab b l) args vals) :
    Calls E.P f vals.toArray w fun e w' => e = .returned (.tuple #[.string (strOf (symTab b l) a), .int .i64 c]) ∧ RowKit.Below w.heap.size w w' := by
  have key : ∀ {v : AV} {M : Mem}, eval E k (.call (.fn f) args ⟨n, .leaf⟩) = some (.call (.ret v) M) → (∀ ρ : Rx.Place, (symTab b l).le ρ → ∀ x, VR ρ v x → x = .tuple #[.string (strOf (symTab b l) a), .int .i64 c]) →
      Calls E.P f vals.toArray w fun e w' => e = .returned (.tuple #[.string (strOf (symTab b l) a), .int .i64 c]) ∧ RowKit.Below w.heap.size w w' := by
    intro v M hM hv
    have hcall : callOf (eval E k) (.fn f) args ⟨n, .leaf⟩ = some (.ret v, M) := by
      unfold callOf
      rw [hM]
    have hc := Cons.syms (n := n) hsy hn hs
    have := (eval_ok OK b k).2.1 (.fn f) _ ⟨n, .leaf⟩ _ M hcall (symTab b l) w vals hc hb ha
    refine Calls.mono this fun e w' he => ?_
    obtain ⟨ρ', k1, k2⟩ := he
    refine ⟨?_, ⟨k1.os, k1.tape, k1.output, k1.size, fun i hi => k1.frame i hi fun b x lc hx => by simp at hx⟩⟩
    have hle : (symTab b l).le ρ' := by rw [← hsy]; exact k1.cons.sym
    cases e with
    | returned x => simp only [EndR] at k2; rw [hv ρ' hle x k2]
    | _ => exact k2.elim
  unfold condAns at h
  split at h
  · rename_i a' c' M hM
    split at h
    · rename_i hstr
      simp only [Option.some.injEq, Prod.mk.injEq] at h
      obtain ⟨rfl, rfl⟩ := h
      refine key hM fun ρ hle x hx => ?_
      simp only [VR, VRs] at hx
      obtain ⟨arr, rfl, v0, _, h1, h2, v1, _, rfl, rfl, rfl⟩ := hx
      have e0 := isStr_ok (ts := E.tys) (σ := symTab b l) (by rw [← hsy]; exact OK.ty) hle hstr h2
      subst e0
      have : arr = #[.string (strOf (symTab b l) a'), .int .i64 c'] := Array.ext' (by rw [h1])
      rw [this]
    · cases h
  · rename_i s c' M hM
    simp only [Option.some.injEq, Prod.mk.injEq] at h
    obtain ⟨rfl, rfl⟩ := h
    refine key hM fun ρ hle x hx => ?_
    simp only [VR] at hx
    rw [hx]
    rfl
  · cases h
noncomputable def condOf (E : Env) (f : FuncId) (ka : AV) : Option (AV × Int) := condAns E.tys (eval E 400 (.call (.fn f) [.agg (ruleRow ka)] ⟨32, .leaf⟩))
noncomputable def chkCond (ka : AV) (E : Env) : Bool :=
  match condOf E 11 ka with
  | some (a, c) => match condOf E 12 ka with
    | some (b, d) => a.same b && decide (c = d)
    | none => false
  | none => false
theorem chkCond_ok {ka : AV} {E : Env} (h : chkCond ka E = true) : ∃ a c, condOf E 11 ka = some (a, c) ∧ condOf E 12 ka = some (a, c) := by
  unfold chkCond at h
  split at h
  · rename_i a c h1
    split at h
    · rename_i b d h2
      simp only [Bool.and_eq_true, decide_eq_true_eq] at h
      obtain ⟨h3, rfl⟩ := h
      have := AV.same_ok h3
      subst this
      exact ⟨a, c, h1, h2⟩
    · cases h
  · cases h
def KR (r : Bool) : Kn := { r := some r }
def KT : Kn := { r := some true, tx := true, cl := true }
def KM : Kn := { r := some true, cl := true, mem := true }
def kE : Exp := .bin .neq (.sym 4) (.lit (.int .i64 0))
def code2 (c : Int) : Option Out → Bool
  | some (.call (.ret (.tuple [_, .lit (.int .i64 d)])) _) => decide (d = c)
  | _ => false
section
variable (sy : Rx.Place) (old : Nat → Option (Option Obj))
theorem cond0 (r : Bool) : chkCond (lk 0) (renv (KR r) (lk 0) sy old []) = true := by
  cases r <;> (as_aux_lemma => kernel_rfl)
theorem condN : chkCond (.ex (.sym 4)) (renv (KR false) (.ex (.sym 4)) sy old [(kE, true)]) = true := by as_aux_lemma => kernel_rfl
theorem cond1 : chkCond (lk 1) (renv KT (lk 1) sy old []) = true := by as_aux_lemma => kernel_rfl
theorem cond2 : chkCond (lk 2) (renv KT (lk 2) sy old []) = true := by as_aux_lemma => kernel_rfl
theorem cond3 : chkCond (lk 3) (renv KT (lk 3) sy old []) = true := by as_aux_lemma => kernel_rfl
theorem from4 : code2 0 (eval (renv KM (lk 4) sy old []) 400 (.call (.fn 31) [.agg [.ex (.sym 7), .lit (.slice none 0 0), .lit (.slice none 0 0)]] ⟨32, .leaf⟩)) = true := by as_aux_lemma => kernel_rfl
end
end Go.Proofs.YtkeibmkcgnppeaaGreatDoor.Ru
namespace Go.Proofs.YtkeibmkcgnppeaaGreatDoor.Ru
open Go Go.Proofs.YtkeibmkcgnppeaaGreatDoor.Rx
set_option maxRecDepth 100000
def CondBoth (W : World) (args : Array Value) : Prop := ∃ (t : ByteArray) (c : Int), ∀ w, Later W w →
  Calls Tryz.prog 11 args w (fun e w' => e = .returned (.tuple #[.string t, .int .i64 c]) ∧ RowKit.Below w.heap.size w w') ∧ Calls Tryz.prog 12 args w (fun e w' => e = .returned (.tuple #[.string t, .int .i64 c]) ∧ RowKit.Below w.heap.size w w')
theorem still_R {W w : World} (hg : Consts W) (hw : Later W w) {K : Kn} {ka : AV} {sy : Rx.Place} {facts : List (Exp × Bool)} : (renv K ka sy (oldOf W) facts).Still W.heap.size w :=
  hw.still hg (con := fun _ _ => none) (opc := fun _ _ => none) (opn := fun _ _ => none) (sy := sy) (tys := rtys) (facts := facts)
theorem cond_fin {W : World} (hg : Consts W) {S : RV} {K : Kn} {ka : AV} {facts : List (Exp × Bool)} (Hh : Holds W W.heap.size S K ka) (hk : ∀ ρ : Rx.Place, (symTab W.heap.size S.vals).le ρ → ∀ x, VR ρ ka x → x = .int .i64 S.k)
    (hf : ∀ f ∈ facts, f.1.ev (symTab W.heap.size S.vals) = some (.bool f.2)) (h : ∀ sy old, chkCond ka (renv K ka sy old facts) = true) : CondBoth W #[.agg S.row.toArray] := by
  obtain ⟨a, c, h1, h2⟩ := chkCond_ok (h (symTab W.heap.size S.vals) (oldOf W))
  have hv : VRs (symTab W.heap.size S.vals) [.agg (ruleRow ka)] [.agg S.row.toArray] := by
    simp only [VRs, VR]
    exact ⟨_, _, rfl, ⟨_, rfl, row_VR (.refl _) Hh.hka Hh.hl⟩, rfl⟩
  exact ⟨strOf (symTab W.heap.size S.vals) a, c, fun w hw => ⟨sym_cond (renv_ok Hh hk hf) h1 w rfl hw.1 (show 18 ≤ 32 by decide) (still_R hg hw) hv, sym_cond (renv_ok Hh hk hf) h2 w rfl hw.1 (show 18 ≤ 32 by decide) (still_R hg hw) hv⟩⟩
theorem holdsR {W : World} {S : RV} {r : Bool} {ka : AV} (hr : Ck.Both W 107 34 #[.agg S.row.toArray] r) (hl : ∃ a c, S.l = .slice a S.n c) (hka : VR (symTab W.heap.size S.vals) ka (.int .i64 S.k)) : Holds W W.heap.size S (KR r) ka where
  h1 := fun b h => by cases h
  h2 := fun b h => by cases h
  hbad := fun b h => by cases h
  hr := fun b h => by cases h; exact hr
  ht := fun h => by cases h
  hs := fun h => by cases h
  hc := fun h => by cases h
  hl := hl
  hka := hka
  hm := fun h => by cases h
theorem clone111 {W : World} {a : Option Addr} {n c : Nat} {tx : Nat → ByteArray} (hx : TextsAt W a n tx) (hn : n ≤ 64) : ∀ w, Later W w → Calls Tryz.prog 111 #[.slice a n c] w fun e w' => (∃ x, e = .returned x ∧ x.oneCell' = true) ∧ RowKit.Below w.heap.size w w' := by
  intro w hw
  have own : ∀ {w' : World} {B : Nat} {v : Value} {m : Nat} {xs : List Value}, w'.ownsRow B 9 1 v m xs → v.oneCell' = true := by
    intro w' B v m xs h
    rcases h.2 with ⟨rfl, _⟩ | ⟨g, cap, cur, rfl, _⟩ <;> rfl
  cases a with
  | none =>
    refine Calls.mono (Tryz.slices_Clone_string_nil n c w) fun e w' he => ?_
    obtain ⟨rfl, rfl⟩ := he
    exact ⟨⟨_, rfl, rfl⟩, RowKit.Below.refl _ _⟩
  | some a =>
    cases n with
    | zero =>
      refine Calls.mono (Tryz.slices_Clone_string_zero a c w) fun e w' he => ?_
      obtain ⟨v, rfl, h1, h2, h3⟩ := he
      exact ⟨⟨_, rfl, own h1⟩, h3⟩
    | succ n =>
      obtain ⟨b, off, h1, h2, h3⟩ := hx.el 0 (Nat.succ_pos _)
      simp only [Option.some.injEq] at h1
      subst h1
      have hz : ∀ j, j < ((List.range (n + 1)).map tx).length → w.cell? ⟨b, off + j, none⟩ = some (.string (((List.range (n + 1)).map tx).getD j ByteArray.empty)) := by
        intro j hj
        have hj' : j < n + 1 := by simpa using hj
        obtain ⟨b', off', e1, e2, e3⟩ := hx.el j hj'
        simp only [Option.some.injEq, Addr.mk.injEq] at e1
        obtain ⟨rfl, rfl, _⟩ := e1
        have hg : ((List.range (n + 1)).map tx).getD j ByteArray.empty = tx j := by
          rw [List.getD_eq_getElem?_getD, List.getElem?_map, List.getElem?_range hj']
          rfl
        rw [hg]
        simp only [World.cell?] at e3 ⊢
        rw [hw.2 b e2]
        exact e3
      refine Calls.mono (Tryz.slices_Clone_string b off (n + 1) c ((List.range (n + 1)).map tx) w (by simp) (by omega) hz) fun e w' he => ?_
      obtain ⟨v, rfl, h1, h2, h3⟩ := he
      exact ⟨⟨_, rfl, own h1⟩, h3⟩
theorem holdsT {W : World} {S : RV} (hr : Ck.Both W 107 34 #[.agg S.row.toArray] true) (hl : ∃ a c, S.l = .slice a S.n c) (hs : S.t1.size ≤ 600 ∧ S.t2.size ≤ 600)
    (ht : ∀ w, Later W w → Calls Tryz.prog 24 #[.float .f64 S.lo] w (fun e w' => e = .returned (.string S.t1) ∧ RowKit.Below w.heap.size w w') ∧ Calls Tryz.prog 30 #[.float .f64 S.lo] w (fun e w' => e = .returned (.string S.t1) ∧ RowKit.Below w.heap.size w w') ∧
      Calls Tryz.prog 24 #[.float .f64 S.hi] w (fun e w' => e = .returned (.string S.t2) ∧ RowKit.Below w.heap.size w w') ∧ Calls Tryz.prog 30 #[.float .f64 S.hi] w (fun e w' => e = .returned (.string S.t2) ∧ RowKit.Below w.heap.size w w'))
    (hc : ∀ w, Later W w → Calls Tryz.prog 111 #[S.l] w fun e w' => (∃ x, e = .returned x ∧ x.oneCell' = true) ∧ RowKit.Below w.heap.size w w') : Holds W W.heap.size S KT (lk S.k) where
  h1 := fun b h => by cases h
  h2 := fun b h => by cases h
  hbad := fun b h => by cases h
  hr := fun b h => by cases h; exact hr
  ht := fun _ => ht
  hs := fun _ => hs
  hc := fun _ => hc
  hl := hl
  hka := lk_VR _
  hm := fun h => by cases h
theorem bound_texts {W : World} {H L : Nat → Nat} (hg : Ground W H L) (hT : TabOk H L) {v : Nat} (hv : absB v < 9218868437227405312) (h64 : v < 18446744073709551616) : ∃ t : ByteArray, t.size ≤ 600 ∧
    ∀ w, Later W w → Calls Tryz.prog 24 #[.float .f64 v] w (fun e w' => e = .returned (.string t) ∧ RowKit.Below w.heap.size w w') ∧ Calls Tryz.prog 30 #[.float .f64 v] w (fun e w' => e = .returned (.string t) ∧ RowKit.Below w.heap.size w w') := by
  obtain ⟨t, h1, h2, h3⟩ := texts_all H L hT v hv h64
  exact ⟨t, h1, fun w hw => ⟨save_float h2 w (hg.num.later hw), ref_number h3 w (hg.num.later hw)⟩⟩
theorem cond_most {W : World} {H L : Nat → Nat} (hg : Ground W H L) (hT : TabOk H L) (hU : Ck.Tabs W) (k : Int) {lo hi : Nat} (hlo : lo < 18446744073709551616) (hhi : hi < 18446744073709551616) {a : Option Addr} {n c : Nat} {tx : Nat → ByteArray} (hx : TextsAt W a n tx) :
    CondBoth W #[ruleV k lo hi a n c] ∨ (k = 4 ∧ lo = 0 ∧ hi = 0 ∧ 1 ≤ n ∧ n ≤ 64 ∧ anyBad tx n = false ∧ Ck.Both W 107 34 #[ruleV k lo hi a n c] true) := by
  obtain ⟨r, hr, hgood⟩ := rule_both hg.cs hU k hlo hhi (a := a) (c := c) hx
  by_cases k0 : k = 0
  · subst k0
    exact .inl (cond_fin (S := { lo := lo, hi := hi, l := .slice a n c, n := n, k := 0 }) (K := KR r) (ka := lk 0) (facts := []) hg.cs (holdsR (S := { lo := lo, hi := hi, l := .slice a n c, n := n, k := 0 }) hr ⟨a, c, rfl⟩ (lk_VR 0)) (fun _ _ _ h => lk_det h) facts_nil (fun sy old => cond0 sy old r))
  cases r with
  | false =>
    refine .inl (cond_fin (S := { lo := lo, hi := hi, l := .slice a n c, n := n, k := k }) (K := KR false) (ka := .ex (.sym 4)) (facts := [(kE, true)]) hg.cs (holdsR (S := { lo := lo, hi := hi, l := .slice a n c, n := n, k := k }) hr ⟨a, c, rfl⟩ (Ck.ex_VR (.refl _) (k := 4) rfl rfl)) (fun ρ hle x h => Ck.ex_val hle (k := 4) (v := .int .i64 k) rfl h) ?_ condN)
    refine facts_cons ?_ facts_nil
    show evBin .neq (.int .i64 k) (.int .i64 0) = _
    exact cmpInt_ev (by simp [cmpInt, k0])
  | true =>
    obtain ⟨f1, f2, hk⟩ := hgood rfl
    rcases hk with hk | ⟨hk, hn⟩ | ⟨h1, h2, h3, h4, h5, h6⟩
    · exact absurd hk k0
    · obtain ⟨t1, s1, c1⟩ := bound_texts hg hT f1 hlo
      obtain ⟨t2, s2, c2⟩ := bound_texts hg hT f2 hhi
      have Hh := holdsT (W := W) (S := { lo := lo, hi := hi, l := .slice a n c, n := n, k := k, t1 := t1, t2 := t2 }) hr ⟨a, c, rfl⟩ ⟨s1, s2⟩ (fun w hw => ⟨(c1 w hw).1, (c1 w hw).2, (c2 w hw).1, (c2 w hw).2⟩) (clone111 hx (by omega))
      rcases hk with rfl | rfl | rfl
      · exact .inl (cond_fin (S := { lo := lo, hi := hi, l := .slice a n c, n := n, k := 1, t1 := t1, t2 := t2 }) (K := KT) (ka := lk 1) (facts := []) hg.cs Hh (fun _ _ _ h => lk_det h) facts_nil cond1)
      · exact .inl (cond_fin (S := { lo := lo, hi := hi, l := .slice a n c, n := n, k := 2, t1 := t1, t2 := t2 }) (K := KT) (ka := lk 2) (facts := []) hg.cs Hh (fun _ _ _ h => lk_det h) facts_nil cond2)
      · exact .inl (cond_fin (S := { lo := lo, hi := hi, l := .slice a n c, n := n, k := 3, t1 := t1, t2 := t2 }) (K := KT) (ka := lk 3) (facts := []) hg.cs Hh (fun _ _ _ h => lk_det h) facts_nil cond3)
    · exact .inr ⟨h1, h2, h3, h4, h5, h6, hr⟩
theorem code2_ok {E : Env} (OK : E.OK) {k : Nat} {f : FuncId} {args : List AV} {n b : Nat} {c : Int} (h : code2 c (eval E k (.call (.fn f) args ⟨n, .leaf⟩)) = true) (w : World)
    {l : List Value} (hsy : E.sy = symTab b l) (hb : b ≤ w.heap.size) (hn : l.length ≤ n) (hs : E.Still b w) {vals : List Value} (ha : VRs (symTab b l) args vals) :
    Calls E.P f vals.toArray w fun e w' => (∃ x, e = .returned (.tuple #[x, .int .i64 c])) ∧ RowKit.Below w.heap.size w w' := by
  unfold code2 at h
  split at h
  · rename_i a d M hM
    have h := of_decide_eq_true h
    subst h
    have hcall : callOf (eval E k) (.fn f) args ⟨n, .leaf⟩ = some (.ret (.tuple [a, .lit (.int .i64 d)]), M) := by
      unfold callOf
      rw [hM]
    have hc := Cons.syms (n := n) hsy hn hs
    have := (eval_ok OK b k).2.1 (.fn f) _ ⟨n, .leaf⟩ _ M hcall (symTab b l) w vals hc hb ha
    refine Calls.mono this fun e w' he => ?_
    obtain ⟨ρ', k1, k2⟩ := he
    refine ⟨?_, ⟨k1.os, k1.tape, k1.output, k1.size, fun i hi => k1.frame i hi fun b x lc hx => by simp at hx⟩⟩
    cases e with
    | returned x =>
      simp only [EndR, VR, VRs] at k2
      obtain ⟨arr, rfl, v0, _, h1, h2, v1, _, rfl, rfl, rfl⟩ := k2
      have e1 : arr = #[v0, .int .i64 d] := Array.ext' (by rw [h1])
      exact ⟨v0, by rw [e1]⟩
    | _ => exact k2.elim
  · cases h
theorem from31 {W : World} (hg : Consts W) {S : RV} (hk : S.k = 4) (hr : Ck.Both W 107 34 #[.agg S.row.toArray] true) (hl : ∃ a c, S.l = .slice a S.n c)
    (hc : ∀ w, Later W w → Calls Tryz.prog 111 #[S.l] w fun e w' => (∃ x, e = .returned x ∧ x.oneCell' = true) ∧ RowKit.Below w.heap.size w w')
    (hm : ∃ x1 o1 c1 x2 o2 c2, S.s = .slice (some ⟨x1, o1, none⟩) 1 c1 ∧ S.p = .pointer (some ⟨x1, o1, none⟩) ∧ S.c = .slice (some ⟨x2, o2, none⟩) 1 c2 ∧ S.q = .pointer (some ⟨x2, o2, none⟩) ∧
      x1 < W.heap.size ∧ x2 < W.heap.size ∧ W.rangeAt x1 o1 [.string ⟨#[97]⟩, S.c] ∧ W.rangeAt x2 o2 (cell0 ++ S.row)) :
    ∀ w, Later W w → Calls Tryz.prog 31 #[.agg #[S.s, .slice none 0 0, .slice none 0 0]] w fun e w' => (∃ x, e = .returned (.tuple #[x, .int .i64 0])) ∧ RowKit.Below w.heap.size w w' := by
  intro w hw
  have Hh : Holds W W.heap.size S KM (lk 4) := {
    h1 := fun b h => by cases h
    h2 := fun b h => by cases h
    hbad := fun b h => by cases h
    hr := fun b h => by cases h; exact hr
    ht := fun h => by cases h
    hs := fun h => by cases h
    hc := fun _ => hc
    hl := hl
    hka := by rw [hk]; exact lk_VR _
    hm := fun _ => hm }
  have hv : VRs (symTab W.heap.size S.vals) [.agg [.ex (.sym 7), .lit (.slice none 0 0), .lit (.slice none 0 0)]] [.agg #[S.s, .slice none 0 0, .slice none 0 0]] := by
    obtain ⟨x1, o1, c1, x2, o2, c2, e1, _⟩ := hm
    have h1 : VR (symTab W.heap.size S.vals) (.ex (.sym 7)) S.s := Ck.ex_VR (.refl _) (k := 7) rfl (by rw [e1]; rfl)
    simp only [VRs]
    refine ⟨_, _, rfl, ?_, rfl⟩
    rw [VR]
    refine ⟨_, rfl, ?_⟩
    simp only [VRs]
    exact ⟨_, _, rfl, h1, _, _, rfl, by simp only [VR], _, _, rfl, by simp only [VR], rfl⟩
  exact code2_ok (renv_ok Hh (fun _ _ _ h => by rw [hk]; exact lk_det h) facts_nil) (from4 _ _) w rfl hw.1 (show 18 ≤ 32 by decide) (still_R hg hw) hv
end Go.Proofs.YtkeibmkcgnppeaaGreatDoor.Ru

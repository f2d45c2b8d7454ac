/- The two tests of a format answer the same. -/
import Derived.Test.YtiamenedboifeabGreatDoorSegLoop2
namespace Go.Proofs.YtiamenedboifeabGreatDoor
open Go Go.Proofs.YtiamenedboifeabGreatDoor.Rx
set_option maxRecDepth 100000

def FD.bad (D : FD) : Prop := (∃ i, i < D.n ∧ (D.gd i && D.rd i) = false) ∨ 1 < D.cnt D.n ∨ ∃ j, j < D.m ∧ D.bd j = true
open Classical in
noncomputable def FD.ans (D : FD) : Int := if D.bad then 100 else 0

def FD.arg (D : FD) : Value := .agg #[.int .i64 D.k, D.p, D.q, .bool D.wh]

theorem body14_eq : Tryz.f14.body = some (Tryz.f14.body.getD .skip) := by kernel_rfl
theorem body6_eq : Tryz.f6.body = some (Tryz.f6.body.getD .skip) := by kernel_rfl
theorem res14 : Tryz.f14.results = #[.tmp 4] := by kernel_rfl
theorem res6 : Tryz.f6.results = #[.tmp 4] := by kernel_rfl
theorem nt14 : Tryz.f14.ntmps = 117 := by kernel_rfl
theorem nt6 : Tryz.f6.ntmps = 122 := by kernel_rfl

theorem leave {P : Program} {fn : Func} (hres : fn.results = #[.tmp 4]) {R : Ending → World → Prop} {a : Act} {w : World} {v : Value} (hd : a.defers = []) (hv : a.tmps.getD 4 undef = v) (hR : R (.returned v) w) : bodyPostX P fn R .ret a w := by
  show LeavesX P fn a.tmps R a.defers .returning w
  rw [hd]
  refine ⟨v, ?_, hR⟩
  unfold results
  rw [hres, ← hv]
  simp

theorem FD.s1_facts (D : FD) {B : Nat} (hn : D.n ≤ 64) (hm : D.m ≤ 8) (k0 : 0 ≤ D.k) (k7 : D.k ≤ 7) : ∀ f ∈ okF, f.1.ev (symTab B (D.s1 0 0).vals) = some (.bool f.2) := by
  unfold okF
  refine cons_fact (cmp_ev (k := 4) (n := D.n) rfl ?_) (cons_fact (cmp_ev (k := 7) (n := D.m) rfl ?_) (two_facts (cmp_ev (k := 0) (n := D.k) rfl ?_) (cmp_ev (k := 0) (n := D.k) rfl ?_)))
  · simp only [cmpInt, Option.some.injEq, decide_eq_false_iff_not]; omega
  · simp only [cmpInt, Option.some.injEq, decide_eq_false_iff_not]; omega
  · simp only [cmpInt, Option.some.injEq, decide_eq_false_iff_not]; omega
  · simp only [cmpInt, Option.some.injEq, decide_eq_false_iff_not]; omega

theorem start_sr {W w0 : World} {D : FD} {nt : Nat} {facts : List (Exp × Bool)} (cs : Consts W) (sp : SlOK D.p D.n) (sq : SlOK D.q D.m) (hW : Later W w0) (k : Nat) (hk : 2 + (k - 2) = nt) :
    SR (senv none none false false .off (symTab w0.heap.size (D.s1 0 0).vals) (oldOf W) facts) w0.heap.size none (symTab w0.heap.size (D.s1 0 0).vals) st0 nt
      { tmps := #[D.arg, .int .i64 256] ++ Array.replicate (k - 2) undef, defers := [] } w0 := by
  have one : ∀ {v : Value} {n : Int}, SlOK v n → v.oneCell' = true := by
    rintro v n ⟨a, len, cap, rfl, _⟩
    rfl
  have ha : VRs (symTab w0.heap.size (D.s1 0 0).vals) [.agg sBox, i64 256] [D.arg, .int .i64 256] := by
    simp only [VRs, sBox, FD.arg, VR, i64]
    refine ⟨_, _, rfl, ⟨_, rfl, _, _, rfl, ⟨rfl, rfl⟩, _, _, rfl, ⟨rfl, one sp⟩, _, _, rfl, ⟨rfl, one sq⟩, _, _, rfl, ⟨rfl, rfl⟩, rfl⟩, _, _, rfl, rfl, rfl⟩
  have hf := enterFR ha k []
  refine ⟨Cons.syms (n := 20) rfl (Nat.le_refl 20) (hW.still' cs hW.1), ?_, rfl, Nat.le_refl _, trivial⟩
  rw [← hk]
  exact hf

theorem wpL_mid {P : Program} {id : Nat} {lp : Code} {rest : List Code} {Q : Exit → Act → World → Prop} {a : Act} {w : World}
    (h : wpC P none (.loop lp) lp (Exit.inBlock id (Exit.then (wpL P rest Q) Q)) a w) : wpL P (.block id (.loop lp) :: rest) Q a w :=
  wp_block (loop_done h)

theorem inBlock_exit {id : Nat} {Q : Exit → Act → World → Prop} {a : Act} {w : World} (h : Q .normal a w) : Exit.inBlock id Q (.exit id) a w := by
  simp only [Exit.inBlock, if_true]
  exact h

theorem turn0 {w0 : World} {D : FD} {nt : Nat} {ts : List Nat} {hh : AV → AV → List AV} {la : Code} (O : One nt ts hh la) {a : Act} {w : World} (h : Stand w0 (D.s1 0 0) nt ts (hh (i64 0) (i64 0)) a w) :
    Stand w0 (D.s1 0 (D.cnt 0)) nt ts (hh (.ex (.sym 5)) (.ex (.sym 6))) a w :=
  h.re rfl rfl rfl rfl (O.len _ _ _ _) fun lc j v v' hv hv' x hx => O.turns (fun x hx => cv_zero (k := 5) (by decide) rfl hx) (fun x hx => cv_zero (k := 6) (by decide) rfl hx) (D.s1_turn) j v v' hv hv' x hx

theorem FD.s12_turn (D : FD) {i c j : Nat} : ∀ k, k = 2 ∨ k = 6 ∨ k = 7 → ∃ v, (D.s1 i c).vals[k]? = some v ∧ (D.s2 j c).vals[k]? = some v := by
  intro k hk
  rcases hk with rfl | rfl | rfl
  · exact ⟨_, rfl, rfl⟩
  · exact ⟨_, rfl, rfl⟩
  · exact ⟨_, rfl, rfl⟩

theorem turn1 {w0 : World} {D : FD} {i c nt : Nat} {tm : List Nat} {gg : AV → List AV} {lb : Code} {te : List Nat} {ve : List AV} (O : Two nt tm gg lb te ve) {a : Act} {w : World} (h : Stand w0 (D.s1 i c) nt tm (gg (i64 0)) a w) :
    Stand w0 (D.s2 0 c) nt tm (gg (.ex (.sym 5))) a w :=
  h.re rfl rfl rfl rfl (O.len _ _) fun lc j v v' hv hv' x hx => O.turns (fun x hx => cv_zero (k := 5) (by decide) rfl hx) (D.s12_turn) j v v' hv hv' x hx

theorem ans_bad {D : FD} (h : D.bad) : D.ans = 100 := by unfold FD.ans; rw [if_pos h]
theorem ans_good {D : FD} (h : ¬ D.bad) : D.ans = 0 := by unfold FD.ans; rw [if_neg h]

def Goes (D : FD) (w0 : World) (e : Ending) (w : World) : Prop := e = .returned (.int .i64 D.ans) ∧ RowKit.Below w0.heap.size w0 w

/-- The program's test. -/
theorem call14 {W w0 : World} {D : FD} (hD : D.OK W) (hW : Later W w0) (hwh : D.wh = true → D.k = 5) : Calls Tryz.prog 14 #[D.arg, .int .i64 256] w0 (Goes D w0) := by
  refine calls_of_wp_marks Tryz.func14 body14_eq (wp_secs _ ?_)
  show wpL Tryz.prog secs14 _ _ _
  rw [secs14_eq, nt14]
  have bad : ∀ {a' : Act} {w' : World}, D.bad → a'.defers = [] → a'.tmps.getD 4 undef = .int .i64 100 → RowKit.Below w0.heap.size w0 w' → bodyPostX Tryz.prog Tryz.f14 (Goes D w0) .ret a' w' := fun hb h1 h2 h3 =>
    leave res14 h1 h2 ⟨by rw [ans_bad hb], h3⟩
  refine wpL_app ?_
  have first : ∀ {facts : List (Exp × Bool)}, (∀ f ∈ facts, f.1.ev (symTab w0.heap.size (D.s1 0 0).vals) = some (.bool f.2)) →
      goesOn ts14 (h14 (i64 0) (i64 0)) .normal (runL (senv none none false false .off (symTab w0.heap.size (D.s1 0 0).vals) (oldOf W) facts) 117 pre14 st0) = true →
      wpL Tryz.prog pre14 (Exit.then (wpL Tryz.prog (.block 0 (.loop la14) :: (mid14 ++ .block 2 (.loop lb14) :: post14)) (bodyPostX Tryz.prog Tryz.f14 (Goes D w0))) (bodyPostX Tryz.prog Tryz.f14 (Goes D w0)))
        { tmps := #[D.arg, .int .i64 256] ++ Array.replicate (117 - #[D.arg, Value.int .i64 256].size) undef, defers := [] } w0 := by
    intro facts hf hgo
    have OK : (senv none none false false .off (symTab w0.heap.size (D.s1 0 0).vals) (oldOf W) facts).OK :=
      senv_ok (fun _ h => by cases h) (fun _ h => by cases h) hD.sp hD.sq (fun h => by cases h) (fun h => by cases h) trivial hf
    refine seg_core OK rfl hgo (start_sr hD.cs hD.sp hD.sq hW 117 rfl) (RowKit.Below.refl _ _) fun a' w' e ρ' xr hst => ?_
    cases e with
    | normal =>
      show wpL Tryz.prog (.block 0 (.loop la14) :: (mid14 ++ .block 2 (.loop lb14) :: post14)) _ a' w'
      refine wpL_mid ?_
      refine loop1 hD hW one14 ?_ ?_ D.n 0 (by omega) (fun j hj => by omega) a' w' (turn0 one14 hst)
      · intro i hi hb a1 w1 h1 h2 h3
        exact bad (.inl ⟨i, hi, hb⟩) h1 h2 h3
      intro hgood a1 w1 hs1
      refine inBlock_exit ?_
      show wpL Tryz.prog (mid14 ++ .block 2 (.loop lb14) :: post14) _ a1 w1
      refine wpL_app ?_
      by_cases hc : 1 < D.cnt D.n
      · have hf : ∀ f ∈ [(numBig, true)], f.1.ev (symTab w0.heap.size (D.s1 D.n (D.cnt D.n)).vals) = some (.bool f.2) := one_fact (cmp_ev (k := 6) (n := D.cnt D.n) rfl (by simp only [cmpInt, Option.some.injEq, decide_eq_true_eq]; omega))
        have OK1 : (senv none none false false .off (symTab w0.heap.size (D.s1 D.n (D.cnt D.n)).vals) (oldOf W) [(numBig, true)]).OK :=
          senv_ok (fun _ h => by cases h) (fun _ h => by cases h) hD.sp hD.sq (fun h => by cases h) (fun h => by cases h) trivial hf
        obtain ⟨ρ, hr⟩ := hs1.sr (g := none) (r := none) (in1 := false) (in2 := false) (cl := .off) (facts := [(numBig, true)]) hD.cs hW
        exact ret_core OK1 (mid14_a _ _) hr hs1.2.2.1 fun a2 w2 h1 h2 h3 => bad (.inr (.inl hc)) h1 h2 h3
      · have hf : ∀ f ∈ [(numBig, false)], f.1.ev (symTab w0.heap.size (D.s1 D.n (D.cnt D.n)).vals) = some (.bool f.2) := one_fact (cmp_ev (k := 6) (n := D.cnt D.n) rfl (by simp only [cmpInt, Option.some.injEq, decide_eq_false_iff_not]; omega))
        have OK1 : (senv none none false false .off (symTab w0.heap.size (D.s1 D.n (D.cnt D.n)).vals) (oldOf W) [(numBig, false)]).OK :=
          senv_ok (fun _ h => by cases h) (fun _ h => by cases h) hD.sp hD.sq (fun h => by cases h) (fun h => by cases h) trivial hf
        obtain ⟨ρ, hr⟩ := hs1.sr (g := none) (r := none) (in1 := false) (in2 := false) (cl := .off) (facts := [(numBig, false)]) hD.cs hW
        refine seg_core OK1 rfl (mid14_b _ _) hr hs1.2.2.1 fun a2 w2 e ρ' xr hst2 => ?_
        cases e with
        | normal =>
          show wpL Tryz.prog (.block 2 (.loop lb14) :: post14) _ a2 w2
          refine wpL_mid ?_
          refine loop2 hD hW two14 ?_ ?_ D.m 0 (by omega) (fun j hj => by omega) a2 w2 (turn1 two14 hst2)
          · intro j hj hb a3 w3 h1 h2 h3
            exact bad (.inr (.inr ⟨j, hj, hb⟩)) h1 h2 h3
          intro hok a3 w3 hs3
          refine inBlock_exit ?_
          show wpL Tryz.prog post14 _ a3 w3
          have OK3 : (senv none none false false .off (symTab w0.heap.size (D.s2 D.m (D.cnt D.n)).vals) (oldOf W) []).OK :=
            senv_ok (fun _ h => by cases h) (fun _ h => by cases h) hD.sp hD.sq (fun h => by cases h) (fun h => by cases h) trivial (fun _ h => by cases h)
          obtain ⟨ρ, hr⟩ := hs3.sr (g := none) (r := none) (in1 := false) (in2 := false) (cl := .off) (facts := []) hD.cs hW
          refine ret_core OK3 (post14_a _ _) hr hs3.2.2.1 fun a4 w4 h1 h2 h3 => leave res14 h1 h2 ⟨?_, h3⟩
          rw [ans_good]
          rintro (⟨i, hi, hb⟩ | hb | ⟨j, hj, hb⟩)
          · rw [hgood i hi] at hb; cases hb
          · exact hc hb
          · rw [hok j hj] at hb; cases hb
        | _ => exact xr.elim
    | _ => exact xr.elim
  have hF := D.s1_facts (B := w0.heap.size) hD.hn hD.hm hD.k0 hD.k7
  cases hw : D.wh with
  | false =>
    refine first (cons_fact ?_ hF) (pre14_g _ _)
    show some (Value.bool D.wh) = _
    rw [hw]
  | true =>
    refine first (cons_fact ?_ (cons_fact (cmp_ev (k := 0) (n := D.k) rfl ?_) hF)) (pre14_f _ _)
    · show some (Value.bool D.wh) = _
      rw [hw]
    · simp only [cmpInt, Option.some.injEq, decide_eq_true_eq]; exact hwh hw
/-- The document's test. -/
theorem call6 {W w0 : World} {D : FD} (hD : D.OK W) (hW : Later W w0) (hwh : D.wh = true → D.k = 5) : Calls Tryz.prog 6 #[D.arg, .int .i64 256] w0 (Goes D w0) := by
  refine calls_of_wp_marks Tryz.func6 body6_eq (wp_secs _ ?_)
  show wpL Tryz.prog secs6 _ _ _
  rw [secs6_eq, nt6]
  have bad : ∀ {a' : Act} {w' : World}, D.bad → a'.defers = [] → a'.tmps.getD 4 undef = .int .i64 100 → RowKit.Below w0.heap.size w0 w' → bodyPostX Tryz.prog Tryz.f6 (Goes D w0) .ret a' w' := fun hb h1 h2 h3 =>
    leave res6 h1 h2 ⟨by rw [ans_bad hb], h3⟩
  refine wpL_app ?_
  have first : ∀ {facts : List (Exp × Bool)}, (∀ f ∈ facts, f.1.ev (symTab w0.heap.size (D.s1 0 0).vals) = some (.bool f.2)) →
      goesOn ts6 (h6 (i64 0) (i64 0)) .normal (runL (senv none none false false .off (symTab w0.heap.size (D.s1 0 0).vals) (oldOf W) facts) 122 pre6 st0) = true →
      wpL Tryz.prog pre6 (Exit.then (wpL Tryz.prog (.block 0 (.loop la6) :: (mid6 ++ .block 2 (.loop lb6) :: post6)) (bodyPostX Tryz.prog Tryz.f6 (Goes D w0))) (bodyPostX Tryz.prog Tryz.f6 (Goes D w0)))
        { tmps := #[D.arg, .int .i64 256] ++ Array.replicate (122 - #[D.arg, Value.int .i64 256].size) undef, defers := [] } w0 := by
    intro facts hf hgo
    have OK : (senv none none false false .off (symTab w0.heap.size (D.s1 0 0).vals) (oldOf W) facts).OK :=
      senv_ok (fun _ h => by cases h) (fun _ h => by cases h) hD.sp hD.sq (fun h => by cases h) (fun h => by cases h) trivial hf
    refine seg_core OK rfl hgo (start_sr hD.cs hD.sp hD.sq hW 122 rfl) (RowKit.Below.refl _ _) fun a' w' e ρ' xr hst => ?_
    cases e with
    | normal =>
      show wpL Tryz.prog (.block 0 (.loop la6) :: (mid6 ++ .block 2 (.loop lb6) :: post6)) _ a' w'
      refine wpL_mid ?_
      refine loop1 hD hW one6 ?_ ?_ D.n 0 (by omega) (fun j hj => by omega) a' w' (turn0 one6 hst)
      · intro i hi hb a1 w1 h1 h2 h3
        exact bad (.inl ⟨i, hi, hb⟩) h1 h2 h3
      intro hgood a1 w1 hs1
      refine inBlock_exit ?_
      show wpL Tryz.prog (mid6 ++ .block 2 (.loop lb6) :: post6) _ a1 w1
      refine wpL_app ?_
      have OK1 : (senv none none false false .off (symTab w0.heap.size (D.s1 D.n (D.cnt D.n)).vals) (oldOf W) []).OK :=
        senv_ok (fun _ h => by cases h) (fun _ h => by cases h) hD.sp hD.sq (fun h => by cases h) (fun h => by cases h) trivial (fun _ h => by cases h)
      obtain ⟨ρ, hr⟩ := hs1.sr (g := none) (r := none) (in1 := false) (in2 := false) (cl := .off) (facts := []) hD.cs hW
      refine seg_core OK1 rfl (mid6_a _ _) hr hs1.2.2.1 fun a2 w2 e ρ' xr hst2 => ?_
      cases e with
      | normal =>
        show wpL Tryz.prog (.block 2 (.loop lb6) :: post6) _ a2 w2
        refine wpL_mid ?_
        refine loop2 hD hW two6 ?_ ?_ D.m 0 (by omega) (fun j hj => by omega) a2 w2 (turn1 two6 hst2)
        · intro j hj hb a3 w3 h1 h2 h3
          exact bad (.inr (.inr ⟨j, hj, hb⟩)) h1 h2 h3
        intro hok a3 w3 hs3
        refine inBlock_exit ?_
        show wpL Tryz.prog post6 _ a3 w3
        by_cases hc : 1 < D.cnt D.n
        · have hf : ∀ f ∈ [(numBig, true)], f.1.ev (symTab w0.heap.size (D.s2 D.m (D.cnt D.n)).vals) = some (.bool f.2) := one_fact (cmp_ev (k := 6) (n := D.cnt D.n) rfl (by simp only [cmpInt, Option.some.injEq, decide_eq_true_eq]; omega))
          have OK3 : (senv none none false false .off (symTab w0.heap.size (D.s2 D.m (D.cnt D.n)).vals) (oldOf W) [(numBig, true)]).OK :=
            senv_ok (fun _ h => by cases h) (fun _ h => by cases h) hD.sp hD.sq (fun h => by cases h) (fun h => by cases h) trivial hf
          obtain ⟨ρ, hr⟩ := hs3.sr (g := none) (r := none) (in1 := false) (in2 := false) (cl := .off) (facts := [(numBig, true)]) hD.cs hW
          exact ret_core OK3 (post6_a _ _) hr hs3.2.2.1 fun a4 w4 h1 h2 h3 => bad (.inr (.inl hc)) h1 h2 h3
        · have hf : ∀ f ∈ [(numBig, false)], f.1.ev (symTab w0.heap.size (D.s2 D.m (D.cnt D.n)).vals) = some (.bool f.2) := one_fact (cmp_ev (k := 6) (n := D.cnt D.n) rfl (by simp only [cmpInt, Option.some.injEq, decide_eq_false_iff_not]; omega))
          have OK3 : (senv none none false false .off (symTab w0.heap.size (D.s2 D.m (D.cnt D.n)).vals) (oldOf W) [(numBig, false)]).OK :=
            senv_ok (fun _ h => by cases h) (fun _ h => by cases h) hD.sp hD.sq (fun h => by cases h) (fun h => by cases h) trivial hf
          obtain ⟨ρ, hr⟩ := hs3.sr (g := none) (r := none) (in1 := false) (in2 := false) (cl := .off) (facts := [(numBig, false)]) hD.cs hW
          refine ret_core OK3 (post6_b _ _) hr hs3.2.2.1 fun a4 w4 h1 h2 h3 => leave res6 h1 h2 ⟨?_, h3⟩
          rw [ans_good]
          rintro (⟨i, hi, hb⟩ | hb | ⟨j, hj, hb⟩)
          · rw [hgood i hi] at hb; cases hb
          · exact hc hb
          · rw [hok j hj] at hb; cases hb
      | _ => exact xr.elim
    | _ => exact xr.elim
  have hF := D.s1_facts (B := w0.heap.size) hD.hn hD.hm hD.k0 hD.k7
  cases hw : D.wh with
  | false =>
    refine first (cons_fact ?_ hF) (pre6_g _ _)
    show some (Value.bool D.wh) = _
    rw [hw]
  | true =>
    refine first (cons_fact ?_ (cons_fact (cmp_ev (k := 0) (n := D.k) rfl ?_) hF)) (pre6_f _ _)
    · show some (Value.bool D.wh) = _
      rw [hw]
    · simp only [cmpInt, Option.some.injEq, decide_eq_true_eq]; exact hwh hw
end Go.Proofs.YtiamenedboifeabGreatDoor

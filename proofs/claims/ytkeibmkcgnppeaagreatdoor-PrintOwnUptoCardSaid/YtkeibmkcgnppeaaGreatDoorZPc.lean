/- Two readings of one term: what Same says. -/
import Derived.Test.YtkeibmkcgnppeaaGreatDoorZPa
import Derived.Test.YtkeibmkcgnppeaaGreatDoorZHa
import Derived.Test.YtkeibmkcgnppeaaGreatDoorZGa
set_option maxHeartbeats 32000000
set_option linter.unusedSimpArgs false
set_option linter.unusedVariables false
namespace Go.Proofs.YtkeibmkcgnppeaaGreatDoor
open Go Go.RowKit Go.Sort
set_option maxRecDepth 100000
def numOk (v : Nat) : Bool := FloatKind.f64.format.order v v == some .eq
mutual
def selfT : TermD → Bool
  | .mk s args => numOk s.num && selfL args
def selfL : List TermD → Bool
  | [] => true
  | t :: r => selfT t && selfL r
end
theorem selfL_at : ∀ {l : List TermD} {j : Nat} (h : j < l.length), selfT l[j] = false → selfL l = false
  | t :: r, 0, h, hf => by simp only [List.getElem_cons_zero] at hf; simp only [selfL, hf, Bool.false_and]
  | t :: r, j + 1, h, hf => by
    simp only [List.getElem_cons_succ] at hf
    simp only [selfL, selfL_at _ hf, Bool.and_false]
theorem selfL_all : ∀ {l : List TermD}, (∀ j (h : j < l.length), selfT l[j] = true) → selfL l = true
  | [], _ => rfl
  | t :: r, h => by
    simp only [selfL, Bool.and_eq_true]
    exact ⟨h 0 (Nat.succ_pos _), selfL_all fun j hj => h (j + 1) (Nat.succ_lt_succ hj)⟩
theorem bits16 {v : Nat} (h64 : v < 18446744073709551616) (w : World) : Calls Tryz.prog 16 #[.float .f64 v, .float .f64 v] w fun e w' => e = .returned (.bool (numOk v)) ∧ w' = w := by
  cases hn : numOk v
  · have hq : ¬ FloatKind.f64.format.order v v = some .eq := fun h => by unfold numOk at hn; rw [h] at hn; cases hn
    go_enter Tryz.func16, Tryz.ntmps16
    go_wp2_with fail
    all_goals first
      | (exfalso; exact hq (by assumption))
      | (go_ret; exact ⟨by simp [hq], rfl⟩)
  · have hq : FloatKind.f64.format.order v v = some .eq := by unfold numOk at hn; simpa using hn
    have hc : (v = 0 ∨ v = 9223372036854775808) ∨ (FloatKind.f64.format.order v 0 != some .eq) = true := by
      by_cases h0 : absB v = 0
      · exact .inl (by unfold absB at h0; omega)
      · refine .inr ?_
        rcases Nat.lt_or_ge (absB v) 9218868437227405312 with hlt | hge
        · have F := fin_of (v := v) (by omega) hlt
          simpa using F.nought
        · by_cases hi : absB v = 9218868437227405312
          · have hz : v = 9218868437227405312 ∨ v = 18442240474082181120 := by unfold absB at hi; omega
            rcases hz with rfl | rfl <;> decide +kernel
          · have hg : 9218868437227405312 < absB v := by omega
            exfalso
            unfold numOk at hn
            unfold absB at hg
            rw [Go.Proofs.YtkeibmkcgnppeaaGreatDoor.Rx.order_nan hg] at hn
            cases hn
    rcases hc with hc | hc
    · have h0 : FloatKind.f64.format.order v 0 = some .eq := by rcases hc with rfl | rfl <;> decide +kernel
      have h1 : ∃ q, FloatKind.f64.format.div 4607182418800017408 v = some q ∧ FloatKind.f64.format.order q q = some .eq := by
        rcases hc with rfl | rfl
        · exact ⟨9218868437227405312, by decide +kernel, by decide +kernel⟩
        · exact ⟨18442240474082181120, by decide +kernel, by decide +kernel⟩
      obtain ⟨q, h1, h3⟩ := h1
      have hd := fun w => run_fquo h1 w
      clear hc
      go_enter Tryz.func16, Tryz.ntmps16
      go_wp2_with fail
      go_ret
      exact ⟨rfl, rfl⟩
    · have h0 : ¬ FloatKind.f64.format.order v 0 = some .eq := by simpa using hc
      go_enter Tryz.func16, Tryz.ntmps16
      go_wp2_with fail
      go_ret
      exact ⟨rfl, rfl⟩
def KidsSame13 (w : World) (p q : Option Addr) (args : List TermD) : Prop :=
  ∀ j (h : j < args.length), ∀ wr, Below w.heap.size w wr → ∃ b1 o1 b2 o2 s ar v1 v2, p = some ⟨b1, o1, none⟩ ∧ q = some ⟨b2, o2, none⟩ ∧ args[j] = .mk s ar ∧ Cells wr b1 (o1 + j * 19) s v1 ∧ Cells wr b2 (o2 + j * 19) s v2 ∧
    ∀ w2, Below wr.heap.size wr w2 → Calls Tryz.prog 8 #[.agg (s.arr v1), .agg (s.arr v2)] w2 fun e w' => e = .returned (.bool (selfT (.mk s ar))) ∧ Below w2.heap.size w2 w'
theorem terms17 (args : List TermD) (p q : Option Addr) (m k : Nat) (w : World) (hl : args.length ≤ 1048576) (hk : KidsSame13 w p q args) :
    Calls Tryz.prog 17 #[.slice p args.length m, .slice q args.length k] w fun e w' => e = .returned (.bool (selfL args)) ∧ Below w.heap.size w w' := by
  have Hk := Lib.hid hk
  obtain ⟨n, hn⟩ : ∃ n, args.length = n := ⟨_, rfl⟩
  rw [hn] at hl ⊢
  have Hn := Lib.hid hn
  clear hk hn
  go_enter Tryz.func17, Tryz.ntmps17
  go_wp2_with fail
  go_loopw [5] (fun i wr => ∃ j : Nat, j ≤ n ∧ i = .int .i64 j ∧ (∀ i (h : i < args.length), i < j → selfT args[i] = true) ∧ Below w.heap.size w wr) (fun i _ => n - (intOf i).toNat)
  case atStart => exact ⟨0, Nat.zero_le _, rfl, fun i h hi => absurd hi (Nat.not_lt_zero _), Below.refl _ _⟩
  case round =>
    obtain ⟨j, hj, rfl, hgood, hbw⟩ := hrel
    rcases Nat.lt_or_ge j n with hlt | hge
    · obtain ⟨b1, o1, b2, o2, s, ar, v1, v2, rfl, rfl, ha, C, D, call⟩ := Hk.out j (by rw [Hn.out]; exact hlt) wr hbw
      have Cd : Cells wr.drew b1 (o1 + j * 19) s v1 := C
      have Dd : Cells wr.drew b2 (o2 + j * 19) s v2 := D
      have hjz : (j : Int) < (n : Int) := by omega
      have hj0 : (0 : Int) ≤ (j : Int) := by omega
      have Hcall := Lib.hid call
      have Hgood := Lib.hid hgood
      have Ha := Lib.hid ha
      have Hbw := Lib.hid hbw
      have Hlt := Lib.hid hlt
      generalize hq : selfT (TermD.mk s ar) = r at Hcall
      have Hq := Lib.hid hq
      clear call hgood hbw hq hj
      cases r
      · go_wp2_with fail
        refine wp_region_noPanic ?_
        refine wp_region_tail (S := (fun w' => w'.rangeAt b1 (o1 + j * 19) (s.row v1) ∧ w'.rangeAt b2 (o2 + j * 19) (s.row v2))) (tail := fun _ => false) (by kernel_rfl) ⟨Cd, Dd⟩ (fun hHeld => ?_)
        refine tk 0 ?_ rfl (Or.inl ⟨by rfl, ?_⟩) (by assumption) ?_
        rotate_left; · (intro w hSw; (try dsimp only at hSw); go_simp; try with_reducible rfl)
        (try simp only [Act.put, sA, s0, s1])
        refine tk 1 ?_ rfl (Or.inl ⟨by rfl, ?_⟩) (by assumption) ?_
        rotate_left; · (intro w hSw; (try dsimp only at hSw); go_simp; try with_reducible rfl)
        (try simp only [Act.put, sA, s0, s1])
        refine tk 2 ?_ rfl (Or.inl ⟨by rfl, ?_⟩) (by assumption) ?_
        rotate_left; · (intro w hSw; (try dsimp only at hSw); go_simp; try with_reducible rfl)
        (try simp only [Act.put, sA, s0, s1])
        refine tk 3 _ rfl ((yieldsIf_load_mid (by rfl) 29 _ rfl _ _ rfl (s.row v1) _ (fun w hSw => hSw.1) Tryz.underlying29 rfl size29)) (by assumption) ?_
        (try simp only [Act.put, sA, s0, s1])
        refine tk 4 ?_ rfl (Or.inl ⟨by rfl, ?_⟩) (by assumption) ?_
        rotate_left; · (intro w hSw; (try dsimp only at hSw); go_simp; try with_reducible rfl)
        (try simp only [Act.put, sA, s0, s1])
        refine tk 5 ?_ rfl (Or.inl ⟨by rfl, ?_⟩) (by assumption) ?_
        rotate_left; · (intro w hSw; (try dsimp only at hSw); go_simp; try with_reducible rfl)
        (try simp only [Act.put, sA, s0, s1])
        refine tk 6 ?_ rfl (Or.inl ⟨by rfl, ?_⟩) (by assumption) ?_
        rotate_left; · (intro w hSw; (try dsimp only at hSw); go_simp; try with_reducible rfl)
        (try simp only [Act.put, sA, s0, s1])
        refine tk 7 _ rfl ((yieldsIf_load_mid (by rfl) 29 _ rfl _ _ rfl (s.row v2) _ (fun w hSw => hSw.2) Tryz.underlying29 rfl size29)) (by assumption) ?_
        (try simp only [Act.put, sA, s0, s1])
        refine wpAnyT_step (i := 8) (by kernel_rfl) rfl (fun K hK => ?_)
        (go_simp; go_at_call 8; refine (Hcall.out _ ((Below.refl _ _).drew)).mono ?_; rintro e w4 ⟨rfl, hb4⟩; (try go_wp2_with fail))
        refine hK.out _ _ ?_ (fun hHeld => ?_)
        · first | exact ⟨Cd.keep hb4, Dd.keep hb4⟩ | exact hHeld
        clear hK K
        (try simp only [Act.put, sA, s0, s1])
        refine wpAnyT_step (i := 9) (by kernel_rfl) rfl (fun K hK => ?_)
        go_simp
        refine hK.out _ _ ?_ (fun hHeld => ?_)
        · first | exact ⟨Cd.keep hb4, Dd.keep hb4⟩ | exact hHeld
        clear hK K
        (try simp only [Act.put, sA, s0, s1])
        refine wpAnyT_done (by kernel_rfl) ?_ _
        refine NoPanic.normal ?_
        all_goals (
          go_wp2_with fail
          go_ret
          refine ⟨?_, Hbw.out.drew.trans (hb4.mono Hbw.out.size)⟩
          rw [selfL_at (l := args) (j := j) (by rw [Hn.out]; exact Hlt.out) (by rw [Ha.out]; exact Hq.out)]
          rfl)
      · go_wp2_with fail
        refine wp_region_noPanic ?_
        refine wp_region_tail (S := (fun w' => w'.rangeAt b1 (o1 + j * 19) (s.row v1) ∧ w'.rangeAt b2 (o2 + j * 19) (s.row v2))) (tail := fun _ => false) (by kernel_rfl) ⟨Cd, Dd⟩ (fun hHeld => ?_)
        refine tk 0 ?_ rfl (Or.inl ⟨by rfl, ?_⟩) (by assumption) ?_
        rotate_left; · (intro w hSw; (try dsimp only at hSw); go_simp; try with_reducible rfl)
        (try simp only [Act.put, sA, s0, s1])
        refine tk 1 ?_ rfl (Or.inl ⟨by rfl, ?_⟩) (by assumption) ?_
        rotate_left; · (intro w hSw; (try dsimp only at hSw); go_simp; try with_reducible rfl)
        (try simp only [Act.put, sA, s0, s1])
        refine tk 2 ?_ rfl (Or.inl ⟨by rfl, ?_⟩) (by assumption) ?_
        rotate_left; · (intro w hSw; (try dsimp only at hSw); go_simp; try with_reducible rfl)
        (try simp only [Act.put, sA, s0, s1])
        refine tk 3 _ rfl ((yieldsIf_load_mid (by rfl) 29 _ rfl _ _ rfl (s.row v1) _ (fun w hSw => hSw.1) Tryz.underlying29 rfl size29)) (by assumption) ?_
        (try simp only [Act.put, sA, s0, s1])
        refine tk 4 ?_ rfl (Or.inl ⟨by rfl, ?_⟩) (by assumption) ?_
        rotate_left; · (intro w hSw; (try dsimp only at hSw); go_simp; try with_reducible rfl)
        (try simp only [Act.put, sA, s0, s1])
        refine tk 5 ?_ rfl (Or.inl ⟨by rfl, ?_⟩) (by assumption) ?_
        rotate_left; · (intro w hSw; (try dsimp only at hSw); go_simp; try with_reducible rfl)
        (try simp only [Act.put, sA, s0, s1])
        refine tk 6 ?_ rfl (Or.inl ⟨by rfl, ?_⟩) (by assumption) ?_
        rotate_left; · (intro w hSw; (try dsimp only at hSw); go_simp; try with_reducible rfl)
        (try simp only [Act.put, sA, s0, s1])
        refine tk 7 _ rfl ((yieldsIf_load_mid (by rfl) 29 _ rfl _ _ rfl (s.row v2) _ (fun w hSw => hSw.2) Tryz.underlying29 rfl size29)) (by assumption) ?_
        (try simp only [Act.put, sA, s0, s1])
        refine wpAnyT_step (i := 8) (by kernel_rfl) rfl (fun K hK => ?_)
        (go_simp; go_at_call 8; refine (Hcall.out _ ((Below.refl _ _).drew)).mono ?_; rintro e w4 ⟨rfl, hb4⟩; (try go_wp2_with fail))
        refine hK.out _ _ ?_ (fun hHeld => ?_)
        · first | exact ⟨Cd.keep hb4, Dd.keep hb4⟩ | exact hHeld
        clear hK K
        (try simp only [Act.put, sA, s0, s1])
        refine wpAnyT_step (i := 9) (by kernel_rfl) rfl (fun K hK => ?_)
        go_simp
        refine hK.out _ _ ?_ (fun hHeld => ?_)
        · first | exact ⟨Cd.keep hb4, Dd.keep hb4⟩ | exact hHeld
        clear hK K
        (try simp only [Act.put, sA, s0, s1])
        refine wpAnyT_done (by kernel_rfl) ?_ _
        refine NoPanic.normal ?_
        all_goals (
          go_wp2_with fail
          refine ⟨⟨j + 1, Hlt.out, rfl, fun i h hi => ?_, Hbw.out.drew.trans (hb4.mono Hbw.out.size)⟩, by have := Hlt.out; simp only [intOf]; omega⟩
          rcases Nat.lt_or_ge i j with h1 | h1
          · exact Hgood.out i h h1
          · obtain rfl : i = j := by omega
            rw [Ha.out]
            exact Hq.out)
    · obtain rfl : j = n := by omega
      have hjz : ¬ (j : Int) < (j : Int) := by omega
      have Hgood := Lib.hid hgood
      clear hgood
      go_wp2_with fail
      go_ret
      refine ⟨?_, hbw⟩
      rw [selfL_all fun i h => Hgood.out i h (by rw [Hn.out] at h; exact h)]
      rfl
theorem same13_step (s : Scal) (args : List TermD) (p q : Option Addr) (m k : Nat) (w : World) (hok : s.OK) (hl : args.length ≤ 1048576)
    (hT : ∀ w2, Below w.heap.size w w2 → Calls Tryz.prog 17 #[.slice p args.length m, .slice q args.length k] w2 fun e w' => e = .returned (.bool (selfL args)) ∧ Below w2.heap.size w2 w') :
    Calls Tryz.prog 8 #[.agg (s.arr (.slice p args.length m)), .agg (s.arr (.slice q args.length k))] w fun e w' => e = .returned (.bool (selfT (.mk s args))) ∧ Below w.heap.size w w' := by
  have HT := Lib.hid hT
  have cB := fun w => bits16 hok.num w
  obtain ⟨n, hn⟩ : ∃ n, args.length = n := ⟨_, rfl⟩
  rw [hn] at HT hl ⊢
  have hsel : selfT (.mk s args) = (numOk s.num && selfL args) := rfl
  rw [hsel]
  generalize selfL args = z at HT
  generalize numOk s.num = y at cB
  clear hT hok hsel hn
  cases y
  · go_enter Tryz.func8, Tryz.ntmps8
    go_upto_region 1 with fail
    generalize hW : (w.alloc (Obj.cells (s.arr (.slice p n m)) 29)).alloc (Obj.cells (s.arr (.slice q n k)) 29) = W
    have hB : Below w.heap.size w W := by rw [← hW]; exact ((Below.refl _ _).alloc (Nat.le_refl _) _).alloc (by simp) _
    obtain ⟨c0, c1, c2, c3, c4, c5, c6, c7, c8, c9, c10, c11, c12, c13, c14, c15, c16, c17, c18⟩ := block_all (w := W) (b := w.heap.size) (s := s) (v := .slice p n m) (by rw [← hW, heap_alloc_old _ _ (by simp)]; exact heap_alloc_new _ _)
    obtain ⟨d0, d1, d2, d3, d4, d5, d6, d7, d8, d9, d10, d11, d12, d13, d14, d15, d16, d17, d18⟩ := block_all (w := W) (b := w.heap.size + 1) (s := s) (v := .slice q n k) (by rw [← hW]; exact heap_alloc2_new _ _ _)
    clear hW
    go_wp2_with (go_at_call 16; refine (cB _).mono ?_; rintro e w' ⟨rfl, rfl⟩)
    go_ret
    exact ⟨rfl, hB⟩
  · cases z
    all_goals (
      go_enter Tryz.func8, Tryz.ntmps8
      go_upto_region 1 with fail
      generalize hW : (w.alloc (Obj.cells (s.arr (.slice p n m)) 29)).alloc (Obj.cells (s.arr (.slice q n k)) 29) = W
      have hB : Below w.heap.size w W := by rw [← hW]; exact ((Below.refl _ _).alloc (Nat.le_refl _) _).alloc (by simp) _
      obtain ⟨c0, c1, c2, c3, c4, c5, c6, c7, c8, c9, c10, c11, c12, c13, c14, c15, c16, c17, c18⟩ := block_all (w := W) (b := w.heap.size) (s := s) (v := .slice p n m) (by rw [← hW, heap_alloc_old _ _ (by simp)]; exact heap_alloc_new _ _)
      obtain ⟨d0, d1, d2, d3, d4, d5, d6, d7, d8, d9, d10, d11, d12, d13, d14, d15, d16, d17, d18⟩ := block_all (w := W) (b := w.heap.size + 1) (s := s) (v := .slice q n k) (by rw [← hW]; exact heap_alloc2_new _ _ _)
      clear hW
      go_wp2_with (first
        | (go_at_call 16; refine (cB _).mono ?_; rintro e w' ⟨rfl, rfl⟩)
        | (go_at_call 17; refine (HT.out _ hB).mono ?_; rintro e w2 ⟨rfl, hb2⟩))
      go_ret
      exact ⟨rfl, hB.trans (hb2.mono hB.size)⟩)
theorem same13_call {w : World} {t : TermD} {c1 : List (Option Value)} (h1 : TermIs w (Low w.heap.size) t c1) : ∀ c2, TermIs w (Low w.heap.size) t c2 → ∀ s args p m q k, t = .mk s args → c1 = (s.row (.slice p args.length m)).map some → c2 = (s.row (.slice q args.length k)).map some →
    ∀ w2, Below w.heap.size w w2 → Calls Tryz.prog 8 #[.agg (s.arr (.slice p args.length m)), .agg (s.arr (.slice q args.length k))] w2 fun e w' => e = .returned (.bool (selfT t)) ∧ Below w2.heap.size w2 w' := by
  induction h1 with
  | mk s args p m hok hl hp hk ih =>
    intro c2 h2 s' args' p' m' q' k' ht hc1 hc2 w2 hb2
    cases ht
    cases h2 with
    | mk _ _ q k _ _ hq hkq =>
      have hpm : (Value.slice p' args.length m') = .slice p args.length m := by
        have e := congrArg (fun l => l[18]?) hc1
        simpa [Scal.row] using e.symm
      have hqk : (Value.slice q' args.length k') = .slice q args.length k := by
        have e := congrArg (fun l => l[18]?) hc2
        simpa [Scal.row] using e.symm
      rw [hpm, hqk]
      refine same13_step s args p q m k w2 hok hl fun w3 hb3 => terms17 args p q m k w3 hl fun j hj wr hbr => ?_
      have hne : args ≠ [] := by intro e; rw [e] at hj; exact absurd hj (Nat.not_lt_zero _)
      obtain ⟨b, o, hpo, hbS⟩ := hp hne
      obtain ⟨b', o', hqo, hbS'⟩ := hq hne
      have hbS : b < w.heap.size := hbS
      have hbS' : b' < w.heap.size := hbS'
      have hs2 := hb2.size
      have hs3 := hb3.size
      have hsr := hbr.size
      have hall : Below w.heap.size w wr := hb2.trans ((hb3.mono hs2).trans (hbr.mono (by omega)))
      obtain ⟨s1, a1, p1, m1, e1, e2⟩ := (hk b o hpo j hj).cells
      obtain ⟨s2, a2, p2, m2, e3, e4⟩ := (hkq b' o' hqo j hj).cells
      rw [e1] at e3
      cases e3
      have C := cells_of e2
      have D := cells_of e4
      rw [Nat.mul_comm] at C D
      refine ⟨b, o, b', o', s1, a1, .slice p1 a1.length m1, .slice p2 a1.length m2, hpo, hqo, e1, C.below (hall.block b hbS), D.below (hall.block b' hbS'), fun w4 hb4 => ?_⟩
      have hx := ih b o hpo j hj _ (hkq b' o' hqo j hj) s1 a1 p1 m1 p2 m2 e1 e2 e4 w4 (hall.trans (hb4.mono (by omega)))
      rw [e1] at hx
      exact hx
end Go.Proofs.YtkeibmkcgnppeaaGreatDoor

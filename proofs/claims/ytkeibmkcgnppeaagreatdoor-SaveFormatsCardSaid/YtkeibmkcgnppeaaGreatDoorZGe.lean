/- Both makers of a format s element answer alike. -/
import Derived.Test.YtkeibmkcgnppeaaGreatDoorZCc
import Derived.Test.YtkeibmkcgnppeaaGreatDoorZGc
import Derived.Test.YtkeibmkcgnppeaaGreatDoorZGd
namespace Go.Proofs.YtkeibmkcgnppeaaGreatDoor
open Go Go.RowKit
set_option maxRecDepth 100000
theorem fmtin_of {W : World} {H L : Nat → Nat} {D : Ck.FD} (hg : Ground W H L) (hT : TabOk H L) (hD : D.OK W) (hG : Ck.Good D) (hA : Ck.AnsBoth W D.arg 0) :
    ∃ F : FmtIn, F.OK W H L ∧ F.arg = D.arg := by
  obtain ⟨pa, ln, pc, hp, hpn⟩ := hD.sp
  obtain ⟨qa, lm, qc, hq, hqm⟩ := hD.sq
  have hln : ln = D.n := by omega
  have hlm : lm = D.m := by omega
  subst hln hlm
  have hk := hG.k
  have hkk : ((D.k.toNat : Nat) : Int) = D.k := Int.toNat_of_nonneg hk.1
  have hpt : ∀ i, ∃ t : Tree, i < D.n → BothNode W 23 29 #[prow (D.P i).kd (D.P i).mn (D.P i).pl (D.P i).ex (D.P i).tx (D.P i).gr (D.P i).lo, .int .i64 D.k] t := by
    intro i
    by_cases hi : i < D.n
    · obtain ⟨⟨a, b, c⟩, ⟨d, e⟩, f⟩ := hG.p i hi
      unfold Ck.In64 at a b c
      obtain ⟨t, ht⟩ := piece_tree (k := D.k) (kd := (D.P i).kd) (mn := (D.P i).mn) (pl := (D.P i).pl) (ex := (D.P i).ex) (s := (D.P i).tx) (g := (D.P i).gr) (l := (D.P i).lo) hg (by omega) (by omega) (by omega) (by omega) (by omega) (by omega) d e f
      exact ⟨t, fun _ => ht⟩
    · exact ⟨.mk false ⟨#[]⟩ ⟨#[]⟩ ⟨#[]⟩ [] [], fun h => absurd h hi⟩
  have htx : ∀ j, ∃ t : ByteArray, j < D.m → t.size ≤ 600 ∧ (∀ w, NumW w H L → Calls Tryz.prog 24 #[.float .f64 (D.M j).vl] w fun o w' => o = .returned (.string t) ∧ Below w.heap.size w w') ∧
      ∀ w, NumW w H L → Calls Tryz.prog 30 #[.float .f64 (D.M j).vl] w fun o w' => o = .returned (.string t) ∧ Below w.heap.size w w' := by
    intro j
    by_cases hj : j < D.m
    · obtain ⟨a, b, c, d⟩ := hG.q j hj
      obtain ⟨t, h1, h2, h3⟩ := texts_all H L hT (D.M j).vl (by unfold absB; exact d) a
      exact ⟨t, fun _ => ⟨h1, fun w hw => save_float h2 w hw, fun w hw => ref_number h3 w hw⟩⟩
    · exact ⟨⟨#[]⟩, fun h => absurd h hj⟩
  obtain ⟨pt, hpt⟩ := Classical.axiomOfChoice hpt
  obtain ⟨tx, htx⟩ := Classical.axiomOfChoice htx
  refine ⟨{ k := D.k.toNat, wh := D.wh, n := D.n, m := D.m, pa := pa, pc := pc, qa := qa, qc := qc, PD := fun i => ⟨(D.P i).kd, (D.P i).tx, (D.P i).mn, (D.P i).pl, (D.P i).ex, (D.P i).gr, (D.P i).lo⟩, MD := fun j => ⟨((D.M j).op - 18).toNat, (D.M j).vl, (D.M j).ap, tx j⟩, pt := pt }, ?_, ?_⟩
  · exact {
      g := hg
      k7 := by have := hk.2; simp only; omega
      wh := fun h => by have := hG.wh h; simp only; omega
      n64 := hG.n
      m8 := hG.m
      pcell := fun i hi => by
        obtain ⟨b, off, len, cap, j, h1, h2, h3, h4, h5, h6⟩ := hD.el1 i 0 hi
        rw [hp] at h1
        cases h1
        have : j = i := by omega
        subst this
        exact ⟨b, off, rfl, h5, h6⟩
      pnode := fun i hi => by
        have := hpt i hi
        rw [← hkk] at this
        exact this
      qcell := fun i hi => by
        obtain ⟨b, off, len, cap, j, h1, h2, h3, h4, h5, h6⟩ := hD.el2 i 0 hi
        rw [hq] at h1
        cases h1
        have : j = i := by omega
        subst this
        have ho := (hG.q j hi).2.2.1
        have hoo : (18 : Int) + (((D.M j).op - 18).toNat : Nat) = (D.M j).op := by omega
        refine ⟨b, off, rfl, h5, ?_⟩
        unfold MapD.cells
        simp only
        rw [hoo]
        exact h6
      qtx := fun j hj => htx j hj
      op := fun j hj => by have ho := (hG.q j hj).2.2.1; simp only; omega
      ap := fun j hj => by
        have ho := (hG.q j hj).2.1
        unfold Ck.In64 at ho
        simp only
        omega
      chk := fun w hw => by
        have := hA w hw
        unfold FmtIn.arg
        unfold Ck.FD.arg at this
        rw [hp, hq, ← hkk] at this
        exact this }
  · unfold FmtIn.arg Ck.FD.arg
    rw [hp, hq]
    simp only [hkk]
end Go.Proofs.YtkeibmkcgnppeaaGreatDoor
namespace Go.Proofs.YtkeibmkcgnppeaaGreatDoor
open Go Go.RowKit
set_option maxRecDepth 100000
attribute [local go_sem ↓] Go.wp_at_zero Go.wp_at_succ
def zeroNode : Value := .agg #[.bool false, .string ⟨#[]⟩, .string ⟨#[]⟩, .string ⟨#[]⟩, .slice none 0 0, .slice none 0 0]
def Turned (c : Int) (w : World) (e : Ending) (w' : World) : Prop := e = .returned (.tuple #[zeroNode, .int .i64 c]) ∧ Below w.heap.size w w'
theorem turned9 {W : World} {k c : Int} {pa qa : Option Addr} {n pc m qc : Nat} {wh : Bool} (hchk : ∀ w, Later W w → Calls Tryz.prog 18 #[.agg #[.int .i64 k, .slice pa n pc, .slice qa m qc, .bool wh], .int .i64 256] w fun e w' => e = .returned (.int .i64 c) ∧ Below w.heap.size w w')
    (hc : c ≠ 0) (nn : Int) (w : World) (hw : Later W w) : Calls Tryz.prog 9 #[.agg #[.int .i64 k, .slice pa n pc, .slice qa m qc, .bool wh], .int .i64 nn] w (Turned c w) := by
  have Hchk := Lib.hid hchk
  have Hw := Lib.hid hw
  have hs49 := size49
  clear hw hchk
  have hc1 : (c == 0) = false := by simp [hc]
  go_enter Tryz.func9, Tryz.ntmps9
  go_wp2_with (go_at_call 18; refine ((Hchk.out _ (by repeat first | exact Hw.out | apply Later.alloc)).mono ?_); rintro e w1 ⟨rfl, hb1⟩; obtain ⟨g1, g2, hb2, hsz⟩ := two_blocks hb1; clear hb1; have y := six_at g2; obtain ⟨⟨y0, y1, y2, y3, y4, y5⟩, f0, f1, f2, f3, f4, f5⟩ := y)
  all_goals (
    try simp only [Exit.inBlock, Exit.then]
    refine bodyPost_ret (results_row_tmp rfl _ _ (w.heap.size + 1) 49 _ _ _ rfl (set6_block g2 _ _ _ _ _ _) Tryz.underlying49 rfl size49) rfl ?_
    exact ⟨rfl, set6_below hb2 (by omega) _ _ _ _ _ _⟩)
theorem turned10 {W : World} {k c : Int} {pa qa : Option Addr} {n pc m qc : Nat} {wh : Bool} (hchk : ∀ w, Later W w → Calls Tryz.prog 25 #[.agg #[.int .i64 k, .slice pa n pc, .slice qa m qc, .bool wh], .int .i64 256] w fun e w' => e = .returned (.int .i64 c) ∧ Below w.heap.size w w')
    (hc : c ≠ 0) (nn : Int) (w : World) (hw : Later W w) : Calls Tryz.prog 10 #[.agg #[.int .i64 k, .slice pa n pc, .slice qa m qc, .bool wh], .int .i64 nn] w (Turned c w) := by
  have Hchk := Lib.hid hchk
  have Hw := Lib.hid hw
  have hs49 := size49
  clear hw hchk
  have hc1 : (c == 0) = false := by simp [hc]
  go_enter Tryz.func10, Tryz.ntmps10
  go_wp2_with (go_at_call 25; refine ((Hchk.out _ (by repeat first | exact Hw.out | apply Later.alloc)).mono ?_); rintro e w1 ⟨rfl, hb1⟩; obtain ⟨g1, g2, hb2, hsz⟩ := two_blocks hb1; clear hb1; have y := six_at g2; obtain ⟨⟨y0, y1, y2, y3, y4, y5⟩, f0, f1, f2, f3, f4, f5⟩ := y)
  all_goals (
    try simp only [Exit.inBlock, Exit.then]
    refine bodyPost_ret (results_row_tmp rfl _ _ (w.heap.size + 1) 49 _ _ _ rfl (set6_block g2 _ _ _ _ _ _) Tryz.underlying49 rfl size49) rfl ?_
    exact ⟨rfl, set6_below hb2 (by omega) _ _ _ _ _ _⟩)
theorem negative9 {W : World} {k : Int} {pa qa : Option Addr} {n pc m qc : Nat} {wh : Bool} (hchk : ∀ w, Later W w → Calls Tryz.prog 18 #[.agg #[.int .i64 k, .slice pa n pc, .slice qa m qc, .bool wh], .int .i64 256] w fun e w' => e = .returned (.int .i64 0) ∧ Below w.heap.size w w')
    (nn : Int) (hn : nn < 0) (w : World) (hw : Later W w) : Calls Tryz.prog 9 #[.agg #[.int .i64 k, .slice pa n pc, .slice qa m qc, .bool wh], .int .i64 nn] w (Turned 1 w) := by
  have Hchk := Lib.hid hchk
  have Hw := Lib.hid hw
  have hs49 := size49
  clear hw hchk
  go_enter Tryz.func9, Tryz.ntmps9
  go_wp2_with (go_at_call 18; refine ((Hchk.out _ (by repeat first | exact Hw.out | apply Later.alloc)).mono ?_); rintro e w1 ⟨rfl, hb1⟩; obtain ⟨g1, g2, hb2, hsz⟩ := two_blocks hb1; clear hb1; have y := six_at g2; obtain ⟨⟨y0, y1, y2, y3, y4, y5⟩, f0, f1, f2, f3, f4, f5⟩ := y)
  all_goals (
    try simp only [Exit.inBlock, Exit.then]
    refine bodyPost_ret (results_row_tmp rfl _ _ (w.heap.size + 1) 49 _ _ _ rfl (set6_block g2 _ _ _ _ _ _) Tryz.underlying49 rfl size49) rfl ?_
    exact ⟨rfl, set6_below hb2 (by omega) _ _ _ _ _ _⟩)
theorem negative10 {W : World} {k : Int} {pa qa : Option Addr} {n pc m qc : Nat} {wh : Bool} (hchk : ∀ w, Later W w → Calls Tryz.prog 25 #[.agg #[.int .i64 k, .slice pa n pc, .slice qa m qc, .bool wh], .int .i64 256] w fun e w' => e = .returned (.int .i64 0) ∧ Below w.heap.size w w')
    (nn : Int) (hn : nn < 0) (w : World) (hw : Later W w) : Calls Tryz.prog 10 #[.agg #[.int .i64 k, .slice pa n pc, .slice qa m qc, .bool wh], .int .i64 nn] w (Turned 1 w) := by
  have Hchk := Lib.hid hchk
  have Hw := Lib.hid hw
  have hs49 := size49
  clear hw hchk
  go_enter Tryz.func10, Tryz.ntmps10
  go_wp2_with (go_at_call 25; refine ((Hchk.out _ (by repeat first | exact Hw.out | apply Later.alloc)).mono ?_); rintro e w1 ⟨rfl, hb1⟩; obtain ⟨g1, g2, hb2, hsz⟩ := two_blocks hb1; clear hb1; have y := six_at g2; obtain ⟨⟨y0, y1, y2, y3, y4, y5⟩, f0, f1, f2, f3, f4, f5⟩ := y)
  all_goals (
    try simp only [Exit.inBlock, Exit.then]
    refine bodyPost_ret (results_row_tmp rfl _ _ (w.heap.size + 1) 49 _ _ _ rfl (set6_block g2 _ _ _ _ _ _) Tryz.underlying49 rfl size49) rfl ?_
    exact ⟨rfl, set6_below hb2 (by omega) _ _ _ _ _ _⟩)
end Go.Proofs.YtkeibmkcgnppeaaGreatDoor
namespace Go.Proofs.YtkeibmkcgnppeaaGreatDoor
open Go Go.RowKit
set_option maxRecDepth 100000
def FmtBoth (W : World) (args : Array Value) : Prop :=
  (∃ t, ∀ w, Later W w → Calls Tryz.prog 9 args w (NodeRet0 w t) ∧ Calls Tryz.prog 10 args w (NodeRet0 w t)) ∨
  ∃ c, ∀ w, Later W w → Calls Tryz.prog 9 args w (Turned c w) ∧ Calls Tryz.prog 10 args w (Turned c w)
theorem fmt_both {W : World} {H L : Nat → Nat} {D : Ck.FD} (hg : Ground W H L) (hT : TabOk H L) (hU : Ck.Tabs W) (sp : Ck.SlOK D.p D.n) (sq : Ck.SlOK D.q D.m) (hD : D.n ≤ 64 → D.m ≤ 8 → 0 ≤ D.k → D.k ≤ 7 → D.OK W) (hM : D.More)
    (nn : Int) (hn1 : nn ≤ 9223372036854775807) : FmtBoth W #[D.arg, .int .i64 nn] := by
  have tur : ∀ c : Int, c ≠ 0 → Ck.AnsBoth W D.arg c → FmtBoth W #[D.arg, .int .i64 nn] := by
    intro c hc hA
    obtain ⟨pa, n, pc, hp, -⟩ := sp
    obtain ⟨qa, m, qc, hq, -⟩ := sq
    unfold Ck.FD.arg at hA ⊢
    rw [hp, hq] at hA ⊢
    exact .inr ⟨c, fun w hw => ⟨turned9 (fun w hw => (hA w hw).1) hc nn w hw, turned10 (fun w hw => (hA w hw).2) hc nn w hw⟩⟩
  rcases Ck.both hg.cs sp sq hD with ⟨hA, hok, hwh, hb⟩ | hA | hA
  · by_cases hn : nn < 0
    · obtain ⟨pa, n, pc, hp, -⟩ := sp
      obtain ⟨qa, m, qc, hq, -⟩ := sq
      unfold Ck.FD.arg at hA ⊢
      rw [hp, hq] at hA ⊢
      exact .inr ⟨1, fun w hw => ⟨negative9 (fun w hw => (hA w hw).1) nn hn w hw, negative10 (fun w hw => (hA w hw).2) nn hn w hw⟩⟩
    · obtain ⟨F, hF, ha⟩ := fmtin_of hg hT hok (Ck.good_of hU hok hM hwh hb) hA
      rw [← ha]
      exact .inl ⟨fmtTree F nn, fun w hw => ⟨fmt9 hF nn (by omega) hn1 w hw, fmt10 hF nn (by omega) hn1 w hw⟩⟩
  · exact tur 3 (by decide) hA
  · exact tur 100 (by decide) hA
end Go.Proofs.YtkeibmkcgnppeaaGreatDoor

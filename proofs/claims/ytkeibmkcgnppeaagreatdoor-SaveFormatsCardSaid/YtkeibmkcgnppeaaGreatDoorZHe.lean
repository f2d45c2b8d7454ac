/- The law SaveFormats answers true. -/
import Derived.Test.YtkeibmkcgnppeaaGreatDoorZHd
namespace Go.Proofs.YtkeibmkcgnppeaaGreatDoor
open Go Go.RowKit
set_option maxRecDepth 100000
attribute [local go_sem ↓] Go.wp_at_zero Go.wp_at_succ
theorem anyBad_out {tx : Nat → ByteArray} {n : Nat} (h : anyBad tx n = false) : ∀ j, j < n → (tx j).size ≤ 255 := by
  intro j hj
  have hb : badText (tx j) = false := by
    cases hb : badText (tx j) with
    | false => rfl
    | true => rw [anyBad_of hb hj] at h; cases h
  unfold badText at hb
  simp only [Bool.or_eq_false_iff, decide_eq_false_iff_not] at hb
  omega
theorem cond_both {W : World} {H L : Nat → Nat} (hg : Ground W H L) (hT : TabOk H L) (hU : Ck.Tabs W) (k : Int) {lo hi : Nat} (hlo : lo < 18446744073709551616) (hhi : hi < 18446744073709551616) {a : Option Addr} {n c : Nat} {tx : Nat → ByteArray} (hx : TextsAt W a n tx) :
    Ru.CondBoth W #[Ru.ruleV k lo hi a n c] := by
  rcases Ru.cond_most hg hT hU k hlo hhi (c := c) hx with h | ⟨rfl, rfl, rfl, h1, h64, hb, hr⟩
  · exact h
  · exact ⟨⟨(listAll tx n).toArray⟩, 0, fun w hw => ⟨cond11_list hg hT hx h1 h64 (anyBad_out hb) hr w hw, cond12_list hg hT hx h64 (anyBad_out hb) hr w hw⟩⟩
theorem NodeIs.high_low {w : World} {S : Nat → Prop} {t : Tree} {r : List (Option Value)} (h : NodeIs w S t r) : NodeIs w (Low w.heap.size) t r := by
  have lt : ∀ {b o n : Nat} {x : Value} {l : List (Option Value)}, rowAt w b o (n + 1) = some x :: l → b < w.heap.size := by
    intro b o n x l h
    rcases Nat.lt_or_ge b w.heap.size with hb | hb
    · exact hb
    · exfalso
      unfold rowAt at h
      rw [List.range_succ_eq_map, List.map_cons] at h
      simp only [List.cons.injEq] at h
      have := h.1
      simp [World.cell?, Array.getElem?_eq_none hb] at this
  induction h with
  | mk elem text space loc attrs kids va p m hal hkl ha hp hk ih =>
    refine .mk elem text space loc attrs kids va p m hal hkl ⟨ha.1, fun j hj => ?_⟩ (fun e => ?_) ih
    · obtain ⟨b, off, n, m, hv, _, hr⟩ := ha.2 j hj
      exact ⟨b, off, n, m, hv, lt hr, hr⟩
    · obtain ⟨b, off, h1, _⟩ := hp e
      have hpos : 0 < kids.length := List.length_pos_iff.2 e
      obtain ⟨x0, x1, x2, x3, x4, x5, h6⟩ := (hk b off h1 0 hpos).six
      exact ⟨b, off, h1, lt h6⟩
def NodeRetC (w : World) (t : Tree) (c : Int) (e : Ending) (w' : World) : Prop :=
  ∃ el tx sp lc p1 n1 m1 p2 n2 m2, e = .returned (.tuple #[.agg #[.bool el, .string tx, .string sp, .string lc, .slice p1 n1 m1, .slice p2 n2 m2], .int .i64 c]) ∧
    NodeIs w' (Low w'.heap.size) t [some (.bool el), some (.string tx), some (.string sp), some (.string lc), some (.slice p1 n1 m1), some (.slice p2 n2 m2)] ∧ Below w.heap.size w w'
theorem fmt_one {W : World} {args : Array Value} (h : FmtBoth W args) : ∃ t c, ∀ w, Later W w → Calls Tryz.prog 9 args w (NodeRetC w t c) ∧ Calls Tryz.prog 10 args w (NodeRetC w t c) := by
  rcases h with ⟨t, h⟩ | ⟨c, h⟩
  · have conv : ∀ {w : World} {e : Ending} {w' : World}, NodeRet0 w t e w' → NodeRetC w t 0 e w' := by
      rintro w e w' ⟨el, tx, sp, lc, p1, n1, m1, p2, n2, m2, h1, h2, h3⟩
      exact ⟨el, tx, sp, lc, p1, n1, m1, p2, n2, m2, h1, h2.high_low, h3⟩
    exact ⟨t, 0, fun w hw => ⟨(h w hw).1.mono fun _ _ h => conv h, (h w hw).2.mono fun _ _ h => conv h⟩⟩
  · have conv : ∀ {w : World} {e : Ending} {w' : World}, Turned c w e w' → NodeRetC w (.mk false ⟨#[]⟩ ⟨#[]⟩ ⟨#[]⟩ [] []) c e w' := by
      rintro w e w' ⟨h1, h3⟩
      refine ⟨false, ⟨#[]⟩, ⟨#[]⟩, ⟨#[]⟩, none, 0, 0, none, 0, 0, h1, ?_, h3⟩
      exact .mk false ⟨#[]⟩ ⟨#[]⟩ ⟨#[]⟩ [] [] (.slice none 0 0) none 0 (by simp) (by simp) ⟨⟨_, _, rfl⟩, fun j hj => absurd hj (Nat.not_lt_zero _)⟩ (fun e => absurd rfl e) (fun b off e => by cases e)
    exact ⟨_, c, fun w hw => ⟨(h w hw).1.mono fun _ _ h => conv h, (h w hw).2.mono fun _ _ h => conv h⟩⟩
end Go.Proofs.YtkeibmkcgnppeaaGreatDoor
namespace Go.Proofs.YtkeibmkcgnppeaaGreatDoor
open Go Go.Proofs.YtkeibmkcgnppeaaGreatDoor.Rx
set_option maxRecDepth 1000000
theorem live_eval : Ck.saysB true (ans (eval env 3000 (.call (.fn 13) [] ⟨0, .leaf⟩))) = true := by kernel_rfl
theorem begun_eval : Ck.saysB true (ans (eval env 3000 (.call (.fn 7) [] ⟨0, .leaf⟩))) = true := by kernel_rfl
theorem live_call {w : World} (hg : Consts w) : Calls Tryz.prog 13 #[] w fun e w' => e = .returned (.bool true) ∧ RowKit.Below w.heap.size w w' :=
  lit_call env_ok (args := []) (Ck.saysB_ok live_eval) w hg
theorem begun_call {w : World} (hg : Consts w) : Calls Tryz.prog 7 #[] w fun e w' => e = .returned (.bool true) ∧ RowKit.Below w.heap.size w w' :=
  lit_call env_ok (args := []) (Ck.saysB_ok begun_eval) w hg
end Go.Proofs.YtkeibmkcgnppeaaGreatDoor
namespace Go.Proofs.YtkeibmkcgnppeaaGreatDoor
open Go Go.RowKit
set_option maxRecDepth 100000
attribute [local go_sem ↓] Go.wp_at_zero Go.wp_at_succ
theorem size40 : (Tryz.prog.info? 40).map (·.size) = some 4 := by kernel_rfl
theorem size43 : (Tryz.prog.info? 43).map (·.size) = some 4 := by kernel_rfl
theorem law4 {W : World} {H L : Nat → Nat} (hg : Ground W H L) {k : Int} {pa qa : Option Addr} {pn pc qn qc : Nat} {wh : Bool} {nn : Int} {rk : Int} {lo hi : Nat} {a : Option Addr} {n c : Nat}
    (hF : FmtBoth W #[.agg #[.int .i64 k, .slice pa pn pc, .slice qa qn qc, .bool wh], .int .i64 nn]) (hC : Ru.CondBoth W #[Ru.ruleV rk lo hi a n c]) :
    Calls Tryz.prog 4 #[.agg #[.int .i64 k, .slice pa pn pc, .slice qa qn qc, .bool wh], .int .i64 nn, Ru.ruleV rk lo hi a n c] W fun e w' => e = .returned (.bool true) ∧ Below W.heap.size W w' := by
  obtain ⟨t, fc, hN⟩ := fmt_one hF
  obtain ⟨ct, cc, hT⟩ := hC
  have HN := Lib.hid hN
  have HT := Lib.hid hT
  have Hg := Lib.hid hg
  unfold Ru.ruleV at HT ⊢
  have hs49 := size49
  have hs40 := size40
  have hs43 := size43
  clear hN hT hF hg
  go_enter Tryz.func4, Tryz.ntmps4
  go_wp2_with (first
    | (go_at_call 9; refine ((HN.out _ (by repeat first | exact Later.refl _ | apply Later.alloc)).1.mono ?_); rintro e w1 ⟨el, tx, sp, lc, p1, n1, m1, p2, n2, m2, rfl, hn1, hb1⟩
       obtain ⟨g0, g1, hbW, hsz1⟩ := two_blocks hb1
       have a0 := fun o => (four_at (alloc_kept (o' := o) g0)).1; have a1 := fun o => (four_at (alloc_kept (o' := o) g0)).2.1; have a2 := fun o => (four_at (alloc_kept (o' := o) g0)).2.2.1; have a3 := fun o => (four_at (alloc_kept (o' := o) g0)).2.2.2
       have Hn1 := Lib.hid hn1; have HbW := Lib.hid hbW; have G0 := Lib.hid g0; have G1 := Lib.hid g1
       clear hn1 hb1 hbW g0 g1)
    | (go_at_call 10; refine ((HN.out _ (((Later.refl W).below HbW.out).alloc _)).2.mono ?_); rintro e w2 ⟨el2, tx2, sp2, lc2, p3, n3, m3, p4, n4, m4, rfl, hn2, hb2⟩
       have g1 := (hb2.block (W.heap.size + 1) (by simp; omega)).trans (alloc_kept G1.out)
       have r1 := last_kept hb2
       have b2 := below_a hb2
       have c0 := fun o => (four_at (alloc_kept (o' := o) g1)).1; have c1 := fun o => (four_at (alloc_kept (o' := o) g1)).2.1; have c2 := fun o => (four_at (alloc_kept (o' := o) g1)).2.2.1; have c3 := fun o => (four_at (alloc_kept (o' := o) g1)).2.2.2
       have hsz2 := b2.size
       have Hn2 := Lib.hid hn2; have HB2 := Lib.hid b2; have G12 := Lib.hid g1; have R1 := Lib.hid r1
       clear hn2 hb2 b2 g1 r1 a0 a1 a2 a3)
    | (go_at_call 11; refine ((HT.out _ (((Later.refl W).below (HbW.out.trans (HB2.out.mono HbW.out.size))).alloc _)).1.mono ?_); rintro e w3 ⟨rfl, hb3⟩
       have g1 := (hb3.block (W.heap.size + 1) (by simp; omega)).trans (alloc_kept G12.out)
       have r1 := (hb3.block w1.heap.size (by have := lt_of_some R1.out; simp; omega)).trans (alloc_kept R1.out)
       have r2 := last_kept hb3
       have b3 := below_a hb3
       have hsz3 := b3.size
       obtain ⟨d0, d1, d2, d3⟩ := four_at g1
       have HB3 := Lib.hid b3; have R13 := Lib.hid r1; have R23 := Lib.hid r2
       clear hb3 b3 g1 r1 r2 c0 c1 c2 c3)
    | (go_at_call 12; refine ((HT.out _ ((Later.refl W).below ((HbW.out.trans (HB2.out.mono HbW.out.size)).trans (HB3.out.mono (Nat.le_trans HbW.out.size HB2.out.size))))).2.mono ?_); rintro e w4 ⟨rfl, hb4⟩
       have r1 := (hb4.block w1.heap.size (lt_of_some R13.out)).trans R13.out
       have r2 := (hb4.block w2.heap.size (lt_of_some R23.out)).trans R23.out
       have hsz4 := hb4.size
       have HB4 := Lib.hid hb4; have R14 := Lib.hid r1; have R24 := Lib.hid r2
       clear hb4 r1 r2 d0 d1 d2 d3)
    | (go_at_call 13; refine (live_call (Hg.out.cs.later ((Later.refl W).below ((HbW.out.trans (HB2.out.mono HbW.out.size)).trans ((HB3.out.trans (HB4.out.mono hsz3)).mono (Nat.le_trans HbW.out.size HB2.out.size)))))).mono ?_; rintro e w5 ⟨rfl, hb5⟩
       have r1 := (hb5.block w1.heap.size (lt_of_some R14.out)).trans R14.out
       have r2 := (hb5.block w2.heap.size (lt_of_some R24.out)).trans R24.out
       have hsz5 := hb5.size
       obtain ⟨⟨y0, y1, y2, y3, y4, y5⟩, _⟩ := six_at r1
       obtain ⟨⟨z0, z1, z2, z3, z4, z5⟩, _⟩ := six_at r2
       have HB5 := Lib.hid hb5
       clear hb5 r1 r2)
    | (go_at_call 14
       have B35 : Below w2.heap.size w2 w5 := HB3.out.trans ((HB4.out.trans (HB5.out.mono hsz4)).mono hsz3)
       have B15 : Below w1.heap.size w1 w5 := HB2.out.trans (B35.mono hsz2)
       refine (same_call Hn1.out w5 B15 B15.size w2.heap.size B35.size _ (Hn2.out.keep B35) _ _ _ _ _ _ _ _ _ _ _ _ rfl rfl).mono ?_; rintro e w6 ⟨rfl, hb6⟩
       have B06 := HbW.out.trans ((B15.trans (hb6.mono B15.size)).mono HbW.out.size)
       have HB := Lib.hid B06
       clear hb6 B35 B15 B06))
  go_ret
  exact ⟨rfl, HB.out⟩
end Go.Proofs.YtkeibmkcgnppeaaGreatDoor

/- An operand s test, a call s arguments test; terms gathered. -/
import Derived.Test.YtkeibmkcgnppeaaGreatDoorZPn
import Derived.Test.YtkeibmkcgnppeaaGreatDoorZPd
import Derived.Test.YtkeibmkcgnppeaaGreatDoorZShelf
set_option maxHeartbeats 32000000
set_option linter.unusedSimpArgs false
set_option linter.unusedVariables false
namespace Go.Proofs.YtkeibmkcgnppeaaGreatDoor
open Go Go.RowKit
set_option maxRecDepth 100000
structure RV where
  s : Scal
  p : Option Addr
  n : Nat
  m : Nat
abbrev RV.v (x : RV) : Value := .slice x.p x.n x.m
def RV.row (x : RV) : List Value := x.s.row x.v
def RV.Is (W : World) (x : RV) (t : TermD) : Prop := ∃ args, t = .mk x.s args ∧ x.n = args.length ∧ TermIs W (Low W.heap.size) t ((x.s.row (.slice x.p x.n x.m)).map some)
def TermD.s : TermD → Scal
  | .mk s _ => s
def TermD.args : TermD → List TermD
  | .mk _ l => l
theorem RV.Is.s {W : World} {x : RV} {t : TermD} (h : x.Is W t) : t.s = x.s := by obtain ⟨_, rfl, _⟩ := h; rfl
theorem RV.Is.n {W : World} {x : RV} {t : TermD} (h : x.Is W t) : x.n = t.args.length := by obtain ⟨_, rfl, h, _⟩ := h; exact h
theorem TermIs.facts {w : World} {S : Nat → Prop} {s : Scal} {args : List TermD} {r : List (Option Value)} (h : TermIs w S (.mk s args) r) : s.OK ∧ args.length ≤ 1048576 := by
  cases h with
  | mk _ _ _ _ hok hl => exact ⟨hok, hl⟩
theorem RV.Is.ok {W : World} {x : RV} {t : TermD} (h : x.Is W t) : x.s.OK := by
  obtain ⟨args, rfl, _, h⟩ := h
  exact h.facts.1
theorem RV.Is.len {W : World} {x : RV} {t : TermD} (h : x.Is W t) : x.n ≤ 1048576 := by
  obtain ⟨args, rfl, hn, h⟩ := h
  rw [hn]
  exact h.facts.2
theorem kid_wt {t : TermD} {j : Nat} (h : j < t.args.length) : t.args[j].wt < t.wt := by
  obtain ⟨s, args⟩ := t
  have := wts_get args j h
  simp only [TermD.args, TermD.wt]
  omega
theorem RV.Is.kid {W : World} {x : RV} {t : TermD} (h : x.Is W t) {j : Nat} (hj : j < t.args.length) : ∃ b o y, x.p = some ⟨b, o, none⟩ ∧ RV.Is W y t.args[j] ∧ ∀ w, Ck.Later W w → Cells w b (o + j * 19) y.s y.v := by
  obtain ⟨args, rfl, hn, h⟩ := h
  have hj : j < args.length := hj
  obtain ⟨xs, xp, xn, xm⟩ := x
  simp only at hn
  subst hn
  generalize hr : ((Scal.row xs (.slice xp args.length xm)).map some) = r at h
  cases h with
  | mk _ _ p m hok hl hp hk =>
    have hpm : (Value.slice xp args.length xm) = .slice p args.length m := by
      have e := congrArg (fun l => l[18]?) hr
      simpa [Scal.row] using e
    cases hpm
    obtain ⟨b, o, hpo, hbS⟩ := hp (by intro e; rw [e] at hj; exact absurd hj (Nat.not_lt_zero _))
    have hbS : b < W.heap.size := hbS
    obtain ⟨s1, a1, p1, m1, e1, e2⟩ := (hk b o hpo j hj).cells
    refine ⟨b, o, ⟨s1, p1, a1.length, m1⟩, hpo, ⟨a1, e1, rfl, ?_⟩, fun w hw => ?_⟩
    · rw [← e2]
      exact hk b o hpo j hj
    · have hc0 := cells_of e2
      rw [Nat.mul_comm] at hc0
      exact hc0.below (hw.2 b hbS)
def FitsAt (W : World) (F : TermD → Int → Bool) (N : Nat) : Prop := ∀ (x : RV) (t : TermD), x.Is W t → t.wt ≤ N → ∀ d : Int, 0 ≤ d → d ≤ 1073741824 → ∀ w, Ck.Later W w →
  Calls Tryz.prog 74 #[.agg (x.s.arr (.slice x.p x.n x.m)), .int .i64 d] w fun e w' => e = .returned (.bool (F t d)) ∧ Below w.heap.size w w'
def operandF (F : TermD → Int → Bool) (t : TermD) (l d : Int) : Bool := if levelF t.s.op < l then decide (d ≤ 64) && F t (d + 1) else F t d
theorem operand_call {W : World} {F : TermD → Int → Bool} {N : Nat} (hF : FitsAt W F N) {x : RV} {t : TermD} (hx : x.Is W t) (hwt : t.wt ≤ N) (l d : Int) (h0 : 0 ≤ d) (h1 : d ≤ 1073741824) (w : World) (hw : Ck.Later W w) :
    Calls Tryz.prog 127 #[.agg (x.s.arr (.slice x.p x.n x.m)), .int .i64 l, .int .i64 d] w fun e w' => e = .returned (.bool (operandF F t l d)) ∧ Below w.heap.size w w' := by
  have cA := fun (h : d ≤ 64) w hw => hF x t hx hwt (d + 1) (by omega) (by omega) w hw
  have cB := fun w hw => hF x t hx hwt d h0 h1 w hw
  have hs := hx.s
  have hv : operandF F t l d = if levelF x.s.op < l then decide (d ≤ 64) && F t (d + 1) else F t d := by rw [← hs]; rfl
  rw [hv]
  obtain ⟨s, p, n, m⟩ := x
  simp only at cA cB hs
  have cL := fun w => level_call s.op w
  generalize F t (d + 1) = q1 at cA
  generalize F t d = q2 at cB
  generalize hb : (if levelF s.op < l then decide (d ≤ 64) && q1 else q2) = b
  have Hb := Lib.hid hb
  have HcA := Lib.hid cA
  have HcB := Lib.hid cB
  have HcL := Lib.hid cL
  clear cA cB hF hx hv hs cL hb
  have hA1 := Scal.arr_size s (.slice p n m)
  go_enter Tryz.func127, Tryz.ntmps127
  go_upto_region 1 with fail
  generalize hW1 : World.alloc w _ = W1
  have hbc : Below w.heap.size w W1 := by rw [← hW1]; exact (Below.refl _ _).alloc (Nat.le_refl _) _
  have hC : W1.heap[w.heap.size]? = some (.cells (s.row (.slice p n m)).toArray 29 (0, 0)) := by rw [← hW1]; exact heap_alloc_new _ _
  clear hW1
  have hlc := later_below hw hbc
  obtain ⟨x0, -, -, -, -, -, -, -, -, -, -, -, -, -, -, -, -, -, -⟩ := block_all hC
  have HC := Lib.hid hC
  have Hlc := Lib.hid hlc
  have Hbc := Lib.hid hbc
  clear hw hC hlc hbc
  by_cases hlt : levelF s.op < l
  · by_cases hd : d ≤ 64
    · go_wp2_with (first
        | (go_at_call 122; refine (HcL.out _).mono ?_; rintro e w5 ⟨rfl, rfl⟩)
        | (go_at_call 74; refine (HcA.out hd _ Hlc.out).mono ?_; rintro e w5 ⟨rfl, hb5⟩; cases q1)
        | (refine wpList_load_row' (by rfl) 29 _ rfl w.heap.size rfl 29 _ (0, 0) _ HC.out Tryz.underlying29 rfl size29 ?_))
      all_goals (
        go_ret
        exact ⟨by rw [← Hb.out, if_pos hlt, decide_eq_true hd]; rfl, Hbc.out.trans (hb5.mono Hbc.out.size)⟩)
    · have hdz : (d ≤ 64) = False := eq_false hd
      have Hd := Lib.hid hd
      clear hd
      go_wp2_with (go_at_call 122; refine (HcL.out _).mono ?_; rintro e w5 ⟨rfl, rfl⟩)
      go_ret
      exact ⟨by rw [← Hb.out, if_pos hlt, decide_eq_false (by have := Hd.out; omega)]; rfl, Hbc.out⟩
  · have hlz : (levelF s.op < l) = False := eq_false hlt
    have Hlt := Lib.hid hlt
    clear hlt
    go_wp2_with (first
      | (go_at_call 122; refine (HcL.out _).mono ?_; rintro e w5 ⟨rfl, rfl⟩)
      | (go_at_call 74; refine (HcB.out _ Hlc.out).mono ?_; rintro e w5 ⟨rfl, hb5⟩)
      | (refine wpList_load_row' (by rfl) 29 _ rfl w.heap.size rfl 29 _ (0, 0) _ HC.out Tryz.underlying29 rfl size29 ?_))
    go_ret
    exact ⟨by rw [← Hb.out, if_neg (by have := Hlt.out; omega)]; rfl, Hbc.out.trans (hb5.mono Hbc.out.size)⟩
def LeafKind (s : Scal) : Prop := (s.op = 1 ∧ absB s.num < 9218868437227405312) ∨ s.op = 2 ∨ s.op = 3 ∨ s.op = 4 ∨ s.op = 5 ∨ s.op = 8
open Classical in
noncomputable def leafB (W : World) (s : Scal) (n : Nat) (arr : Bool) : Bool := if h : ∃ b : Bool, (b = true → LeafKind s) ∧ LeafAns W s n arr b then h.choose else false
theorem leafB_spec {W : World} (hg : Ck.Consts W) (hT : Ck.Tabs W) {s : Scal} (hok : s.OK) (n : Nat) (arr : Bool) : (leafB W s n arr = true → LeafKind s) ∧ LeafAns W s n arr (leafB W s n arr) := by
  have h : ∃ b : Bool, (b = true → LeafKind s) ∧ LeafAns W s n arr b := leaf_call hg hT s hok n arr
  have e : leafB W s n arr = h.choose := by unfold leafB; rw [dif_pos h]
  rw [e]
  exact h.choose_spec
open Classical in
noncomputable def argB (W : World) (F : TermD → Int → Bool) (n : Nat) (d : Int) (t : TermD) : Bool := if t.s.op = 8 ∧ 1 < n then leafB W t.s t.args.length false else F t d
open Classical in
noncomputable def argsB (W : World) (F : TermD → Int → Bool) (l : List TermD) (d : Int) : Bool := decide (l.length ≤ 32 ∧ ∀ t ∈ l, argB W F l.length d t = true)
theorem args_call {W : World} (hg : Ck.Consts W) (hT : Ck.Tabs W) {F : TermD → Int → Bool} {N : Nat} (hF : FitsAt W F N) {x : RV} {t : TermD} (hx : x.Is W t) (hwt : t.wt ≤ N + 1) (d : Int) (h0 : 0 ≤ d) (h1 : d ≤ 1073741824) (w : World) (hw : Ck.Later W w) :
    Calls Tryz.prog 124 #[.slice x.p x.n x.m, .int .i64 d] w fun e w' => e = .returned (.bool (argsB W F t.args d)) ∧ Below w.heap.size w w' := by
  have hkid := fun j hj => RV.Is.kid hx (j := j) hj
  have hkw := fun j hj => kid_wt (t := t) (j := j) hj
  have hn := hx.n
  have hlen := hx.len
  have HF := Lib.hid hF
  have Hg := Lib.hid hg
  have HT := Lib.hid hT
  have Hkid := Lib.hid hkid
  have Hkw := Lib.hid hkw
  have Hwt := Lib.hid hwt
  have Hw := Lib.hid hw
  obtain ⟨s, p, n, m⟩ := x
  simp only at hn hlen hkid Hkid ⊢
  have Hn := Lib.hid hn
  clear hF hkid hkw hg hT hx hn hwt hw
  by_cases h32 : n ≤ 32
  · have h32z : ((32 : Int) < (n : Int)) = False := eq_false (by omega)
    go_enter Tryz.func124, Tryz.ntmps124
    go_wp2_with fail
    go_loopw [12] (fun i wr => ∃ j : Nat, i = .int .i64 j ∧ j ≤ n ∧ (∀ i (h : i < t.args.length), i < j → argB W F n d t.args[i] = true) ∧ Below w.heap.size w wr) (fun i _ => n - (intOf i).toNat)
    case atStart => exact ⟨0, rfl, Nat.zero_le _, fun i h hi => absurd hi (Nat.not_lt_zero _), Below.refl _ _⟩
    case round =>
      obtain ⟨j, rfl, hj, hgood, hbw⟩ := hrel
      rcases Nat.lt_or_ge j n with hlt | hge
      · have hja : j < t.args.length := by rw [← Hn.out]; exact hlt
        obtain ⟨b, o, y, hpo, hy, hcl⟩ := Hkid.out j hja
        subst hpo
        have hlr : Ck.Later W wr := later_below Hw.out hbw
        have hC := hcl wr hlr
        have cF := fun w hw => HF.out y t.args[j] hy (by have := Hkw.out j hja; have := Hwt.out; omega) d h0 h1 w hw
        have hys := hy.s
        have cLf := (leafB_spec Hg.out HT.out hy.ok y.n false).2
        have hyn := hy.n
        have hab : argB W F n d t.args[j] = if y.s.op = 8 ∧ 1 < n then leafB W y.s y.n false else F t.args[j] d := by unfold argB; rw [hys, hyn]
        have hfalse : argB W F n d t.args[j] = false → argsB W F t.args d = false := fun h => by
          unfold argsB
          refine decide_eq_false fun hh => ?_
          have := hh.2 _ (List.getElem_mem hja)
          rw [← Hn.out, h] at this
          cases this
        obtain ⟨ys, yp, yn, ym⟩ := y
        simp only at hC cF cLf hab hyn
        generalize F t.args[j] d = q1 at cF hab
        generalize leafB W ys yn false = q2 at cLf hab
        have HC := Lib.hid hC
        have HcF := Lib.hid cF
        have HcLf : Hid (∀ p m w, Ck.Later W w → _) := Lib.hid cLf
        have Hab := Lib.hid hab
        have Hfalse := Lib.hid hfalse
        have Hgood := Lib.hid hgood
        have Hbw := Lib.hid hbw
        have Hlr := Lib.hid hlr
        clear hC hcl cF cLf hab hfalse hgood hys hy hyn hbw hlr
        have hjz : (j : Int) < (n : Int) := by omega
        have hj0 : (0 : Int) ≤ (j : Int) := by omega
        have hA1 := Scal.arr_size ys (.slice yp yn ym)
        go_upto_region 6 with (first
          | (refine wpList_load_mid rfl 29 _ rfl b (o + j * 19) rfl (ys.row (.slice yp yn ym)) _ HC.out Tryz.underlying29 rfl size29 ?_)
          | (refine wpList_store_row rfl 29 _ _ rfl wr.heap.size (ys.arr (.slice yp yn ym)) rfl rfl 29 zeroTerm (heap_alloc_new _ _) size29 rfl (Scal.arr_one _ _ _ _) ?_))
        generalize hW1 : World.setRow _ _ _ = W1
        have hB1 : W1.heap[wr.heap.size]? = some (.cells (ys.row (.slice yp yn ym)).toArray 29 (0, 0)) := by
          rw [← hW1]
          exact setRow_heap _ _ _ _ _ _ (heap_alloc_new _ _)
        have hb1 : Below w.heap.size w W1 := by
          rw [← hW1]
          exact below_setRow (Hbw.out.alloc Hbw.out.size _) Hbw.out.size _
        clear hW1
        obtain ⟨x0, -, -, -, -, -, -, -, -, -, -, -, -, -, -, -, -, -, -⟩ := block_all hB1
        have HB1 := Lib.hid hB1
        have Hb1 := Lib.hid hb1
        have Hl1 : Hid (Ck.Later W W1) := Lib.hid (later_below Hw.out hb1)
        clear hB1 hb1
        by_cases h8 : ys.op = 8
        · have h8z : (ys.op == (8 : Int)) = true := by rw [beq_iff_eq]; exact h8
          by_cases hn1 : 1 < n
          · have hn1z : (1 : Int) < (n : Int) := by omega
            have hv := Hab.out
            rw [if_pos ⟨h8, hn1⟩] at hv
            have Hv := Lib.hid hv
            clear hv
            cases q2
            · go_wp2_with (first
                | (go_at_call 126; refine (HcLf.out _ _ _ Hl1.out).mono ?_; rintro e w5 ⟨rfl, hb5⟩)
                | (refine wpList_load_row' (by rfl) 29 _ rfl wr.heap.size rfl 29 _ (0, 0) _ HB1.out Tryz.underlying29 rfl size29 ?_))
              go_ret
              exact ⟨by rw [Hfalse.out Hv.out]; rfl, Hb1.out.trans (hb5.mono Hb1.out.size)⟩
            · go_wp2_with (first
                | (go_at_call 126; refine (HcLf.out _ _ _ Hl1.out).mono ?_; rintro e w5 ⟨rfl, hb5⟩)
                | (refine wpList_load_row' (by rfl) 29 _ rfl wr.heap.size rfl 29 _ (0, 0) _ HB1.out Tryz.underlying29 rfl size29 ?_))
              refine ⟨⟨j + 1, rfl, hlt, fun i h hi => ?_, Hb1.out.trans (hb5.mono Hb1.out.size)⟩, by simp only [intOf]; omega⟩
              rcases Nat.lt_or_ge i j with h5 | h5
              · exact Hgood.out i h h5
              · obtain rfl : i = j := by omega
                exact Hv.out
          · have hn1z : ((1 : Int) < (n : Int)) = False := eq_false (by omega)
            have hv := Hab.out
            rw [if_neg (fun h => hn1 h.2)] at hv
            have Hv := Lib.hid hv
            clear hv
            cases q1
            · go_wp2_with (first
                | (go_at_call 74; refine (HcF.out _ Hl1.out).mono ?_; rintro e w5 ⟨rfl, hb5⟩)
                | (refine wpList_load_row' (by rfl) 29 _ rfl wr.heap.size rfl 29 _ (0, 0) _ HB1.out Tryz.underlying29 rfl size29 ?_))
              go_ret
              exact ⟨by rw [Hfalse.out Hv.out]; rfl, Hb1.out.trans (hb5.mono Hb1.out.size)⟩
            · go_wp2_with (first
                | (go_at_call 74; refine (HcF.out _ Hl1.out).mono ?_; rintro e w5 ⟨rfl, hb5⟩)
                | (refine wpList_load_row' (by rfl) 29 _ rfl wr.heap.size rfl 29 _ (0, 0) _ HB1.out Tryz.underlying29 rfl size29 ?_))
              refine ⟨⟨j + 1, rfl, hlt, fun i h hi => ?_, Hb1.out.trans (hb5.mono Hb1.out.size)⟩, by simp only [intOf]; omega⟩
              rcases Nat.lt_or_ge i j with h5 | h5
              · exact Hgood.out i h h5
              · obtain rfl : i = j := by omega
                exact Hv.out
        · have h8z : (ys.op == (8 : Int)) = false := by rw [beq_eq_false_iff_ne]; exact h8
          have hv := Hab.out
          rw [if_neg (fun h => h8 h.1)] at hv
          have Hv := Lib.hid hv
          clear hv
          cases q1
          · go_wp2_with (first
              | (go_at_call 74; refine (HcF.out _ Hl1.out).mono ?_; rintro e w5 ⟨rfl, hb5⟩)
              | (refine wpList_load_row' (by rfl) 29 _ rfl wr.heap.size rfl 29 _ (0, 0) _ HB1.out Tryz.underlying29 rfl size29 ?_))
            go_ret
            exact ⟨by rw [Hfalse.out Hv.out]; rfl, Hb1.out.trans (hb5.mono Hb1.out.size)⟩
          · go_wp2_with (first
              | (go_at_call 74; refine (HcF.out _ Hl1.out).mono ?_; rintro e w5 ⟨rfl, hb5⟩)
              | (refine wpList_load_row' (by rfl) 29 _ rfl wr.heap.size rfl 29 _ (0, 0) _ HB1.out Tryz.underlying29 rfl size29 ?_))
            refine ⟨⟨j + 1, rfl, hlt, fun i h hi => ?_, Hb1.out.trans (hb5.mono Hb1.out.size)⟩, by simp only [intOf]; omega⟩
            rcases Nat.lt_or_ge i j with h5 | h5
            · exact Hgood.out i h h5
            · obtain rfl : i = j := by omega
              exact Hv.out
      · obtain rfl : j = n := by omega
        have hjz : ((j : Int) < (j : Int)) = False := eq_false (by omega)
        have hv : argsB W F t.args d = true := by
          unfold argsB
          refine decide_eq_true ⟨by rw [← Hn.out]; exact h32, fun u hu => ?_⟩
          obtain ⟨i, hi, rfl⟩ := List.getElem_of_mem hu
          rw [← Hn.out]
          exact hgood i hi (by rw [Hn.out]; exact hi)
        have Hv := Lib.hid hv
        clear hv hgood
        go_wp2_with fail
        go_ret
        exact ⟨by rw [Hv.out]; rfl, hbw⟩
  · have h32z : (32 : Int) < (n : Int) := by omega
    have hv : argsB W F t.args d = false := by
      unfold argsB
      exact decide_eq_false fun hh => h32 (by rw [Hn.out]; exact hh.1)
    rw [hv]
    go_enter Tryz.func124, Tryz.ntmps124
    go_wp2_with fail
    go_ret
    exact ⟨rfl, Below.refl _ _⟩
open Go Go.RowKit Go.Sort
set_option maxRecDepth 100000
instance : Inhabited RV := ⟨⟨⟨0, 0, ⟨#[]⟩, 0, ⟨#[]⟩, ⟨#[]⟩, ⟨#[]⟩, false, false, 0, 0, false, false, 0, 0, false, false, 0⟩, none, 0, 0⟩⟩
theorem RV.row_len (x : RV) : x.row.length = 19 := rfl
theorem rev_none (w : World) : Calls Tryz.prog 168 #[.slice none 0 0] w fun e w' => e = .returned (.tuple #[]) ∧ w' = w := AnyQ.slices_Reverse_empty Tryz.reverseTerm none 0 w
theorem RV.row_one (x : RV) : ∀ v ∈ x.row, v.oneCell' = true := Scal.row_one x.s x.p x.n x.m
open Classical in
noncomputable def rightsB (F : TermD → Int → Bool) (l d : Int) (rs : List TermD) : Bool := decide (∀ i (h : i < rs.length), operandF F rs[i] l (d + (i : Int) + 1) = true)
noncomputable def endB (F : TermD → Int → Bool) (l d many : Int) (t : TermD) (rs : List TermD) (n : Int) : Bool := operandF F t (l + 1) d && !(decide (many = 1) && decide (64 < d + n)) && rightsB F (l + 1) d rs.reverse
noncomputable def lineGo (F : TermD → Int → Bool) (l d many : Int) : Nat → TermD → List TermD → Int → Bool
  | 0, _, _, _ => false
  | g + 1, .mk s args, rs, n =>
    if levelF s.op = l then
      (if (args.length : Int) = many ∧ Sz.sameB s 0 s.op ⟨#[]⟩ = true then
        match args with
        | [] => false
        | t :: r => lineGo F l d many g t (if many = 2 then rs ++ r.take 1 else rs) (n + 1)
      else false)
    else endB F l d many (.mk s args) rs n
noncomputable def lineF (F : TermD → Int → Bool) (t : TermD) (l d : Int) : Bool := lineGo F l d (if t.s.op = 11 then 1 else 2) t.wt t [] 0
structure Gath (W w : World) (B : Nat) (v : Value) (cs : List Value) (xs : List RV) (ts : List TermD) : Prop where
  own : w.ownsRow B 29 19 v xs.length cs
  len : ts.length = xs.length
  row : ∀ i (h : i < xs.length), (cs.drop (19 * i)).take 19 = xs[i].row
  is : ∀ i (h : i < xs.length) (h2 : i < ts.length), xs[i].Is W ts[i]
theorem Gath.nil (W w : World) (B : Nat) : Gath W w B (.slice none 0 0) [] [] [] := ⟨World.ownsRow_nil _ _ _ _, rfl, fun i h => absurd h (Nat.not_lt_zero _), fun i h => absurd h (Nat.not_lt_zero _)⟩
theorem Gath.add {W w w' : World} {B : Nat} {v v' : Value} {cs : List Value} {xs : List RV} {ts : List TermD} (h : Gath W w B v cs xs ts) {x : RV} {t : TermD} (hx : x.Is W t)
    (hown : w'.ownsRow B 29 19 v' (xs.length + 1) (cs ++ x.row)) : Gath W w' B v' (cs ++ x.row) (xs ++ [x]) (ts ++ [t]) := by
  have hl := h.len
  have hcs := h.own.1
  have hxr := x.row_len
  refine ⟨by simpa using hown, by simp [hl], fun i hi => ?_, fun i hi h2 => ?_⟩
  · rw [List.length_append, List.length_singleton] at hi
    rcases Nat.lt_or_ge i xs.length with hlt | hge
    · rw [List.getElem_append_left hlt, List.drop_append_of_le_length (by omega), List.take_append_of_le_length (by simp; omega)]
      exact h.row i hlt
    · obtain rfl : i = xs.length := by omega
      rw [List.getElem_append_right (Nat.le_refl _), List.drop_append, List.drop_eq_nil_of_le (by omega), List.nil_append, show 19 * xs.length - cs.length = 0 by omega, List.drop_zero, List.take_of_length_le (by omega)]
      simp
  · rw [List.length_append, List.length_singleton] at hi h2
    rcases Nat.lt_or_ge i xs.length with hlt | hge
    · rw [List.getElem_append_left hlt, List.getElem_append_left (by omega)]
      exact h.is i hlt (by omega)
    · obtain rfl : i = xs.length := by omega
      rw [List.getElem_append_right (Nat.le_refl _), List.getElem_append_right (by omega)]
      simp only [Nat.sub_self, List.getElem_cons_zero, hl]
      exact hx
theorem Gath.keep {W w w' : World} {B : Nat} {v : Value} {cs : List Value} {xs : List RV} {ts : List TermD} (h : Gath W w B v cs xs ts) (hk : ∀ b, v.ownBlock = some b → w'.heap[b]? = w.heap[b]?) : Gath W w' B v cs xs ts := by
  refine ⟨⟨h.own.1, ?_⟩, h.len, h.row, h.is⟩
  rcases h.own.2 with h0 | ⟨g, cap, cur, h1, h2, h3, h4⟩
  · exact .inl h0
  · refine .inr ⟨g, cap, cur, h1, h2, ?_, h4⟩
    rw [hk g (by rw [h1]; rfl)]
    exact h3
theorem Gath.holds {W w : World} {B g cap : Nat} {cs : List Value} {xs : List RV} {ts : List TermD} (h : Gath W w B (.slice (some ⟨g, 0, none⟩) xs.length cap) cs xs ts) : HoldsK RV.row 19 w g 0 xs.toArray := by
  rcases h.own.2 with ⟨h0, _⟩ | ⟨g', cap', cur, h1, h2, h3, h4, h5, h6, h7⟩
  · cases h0
  · cases h1
    have hcs := h.own.1
    intro t ht
    have ht : t < xs.length * 19 := by simpa using ht
    rw [get_flatK _ _ _ _ (by simpa using ht)]
    have hi : t / 19 < xs.length := by omega
    have hrow := h.row (t / 19) hi
    have hc : t < cs.length := by omega
    refine ⟨?_, by simp [World.frozen?, h3]⟩
    have e1 : cur[t]? = some (cs[t]'hc) := by
      have : cs[t]? = some (cs[t]'hc) := List.getElem?_eq_getElem hc
      rw [← this]
      conv => rhs; rw [← h7]
      rw [List.getElem?_take, if_pos ht, Array.getElem?_toList]
    have e2 : (cs.drop (19 * (t / 19))).take 19 = xs[t / 19].row := hrow
    have e3 : ((cs.drop (19 * (t / 19))).take 19)[t % 19]? = some (cs[t]'hc) := by
      rw [List.getElem?_take, if_pos (by omega), List.getElem?_drop, show 19 * (t / 19) + t % 19 = t by omega]
      exact List.getElem?_eq_getElem hc
    rw [e2] at e3
    have e4 : (xs.toArray[t / 19]!) = xs[t / 19] := by simp [hi]
    rw [Nat.zero_add]
    simp only [World.cell?, h3, e1, id]
    have e5 : (xs.toArray[t / 19]!.row)[t % 19]! = cs[t]'hc := by
      rw [e4]
      have := e3
      rw [List.getElem!_eq_getElem?_getD, this]
      rfl
    rw [e5]
    rfl
theorem rev_some (g cap k : Nat) (xs : List RV) (hk : xs.length = k) (hsz : k ≤ 9223372036854775807) (w : World) (h : HoldsK RV.row 19 w g 0 xs.toArray) : Calls Tryz.prog 168 #[.slice (some ⟨g, 0, none⟩) k cap] w fun e w' => e = .returned (.tuple #[]) ∧ ∃ n, w' = putRowK RV.row 19 (Go.Sort.ahead w n) g 0 xs.toArray.reverse := by
  subst hk
  exact AnyQ.slices_Reverse Tryz.reverseTerm 19 (fun w => by kernel_rfl) (fun w => by kernel_rfl) RV.row (fun _ => rfl) (fun x => x.row_one) g 0 cap xs.toArray w h (by simpa using hsz)
end Go.Proofs.YtkeibmkcgnppeaaGreatDoor

/- A line of operators: its test. -/
import Derived.Test.YtkeibmkcgnppeaaGreatDoorZPo
import Derived.Lib.OwnBridge
set_option maxHeartbeats 32000000
namespace Go.Proofs.YtkeibmkcgnppeaaGreatDoor
open Go Go.RowKit Go.Sort
set_option maxRecDepth 100000
attribute [local go_sem] foldl_row
theorem lineGo_stop {F : TermD → Int → Bool} {l d many : Int} {g : Nat} {u : TermD} {ts : List TermD} {n : Int} (h : ¬ levelF u.s.op = l) : lineGo F l d many (g + 1) u ts n = endB F l d many u ts n := by
  obtain ⟨s, args⟩ := u
  exact if_neg h
theorem lineGo_bad {F : TermD → Int → Bool} {l d many : Int} {g : Nat} {u : TermD} {ts : List TermD} {n : Int} (h : levelF u.s.op = l) (hb : ¬ ((u.args.length : Int) = many ∧ Sz.sameB u.s 0 u.s.op ⟨#[]⟩ = true)) : lineGo F l d many (g + 1) u ts n = false := by
  obtain ⟨s, args⟩ := u
  exact (if_pos h).trans (if_neg hb)
theorem lineGo_on {F : TermD → Int → Bool} {l d many : Int} {g : Nat} {u : TermD} {ts : List TermD} {n : Int} (h : levelF u.s.op = l) (hb : (u.args.length : Int) = many ∧ Sz.sameB u.s 0 u.s.op ⟨#[]⟩ = true) (h0 : 0 < u.args.length) :
    lineGo F l d many (g + 1) u ts n = lineGo F l d many g u.args[0] (if many = 2 then ts ++ (u.args.drop 1).take 1 else ts) (n + 1) := by
  obtain ⟨s, args⟩ := u
  cases args with
  | nil => exact absurd h0 (Nat.lt_irrefl _)
  | cons t r => exact (if_pos h).trans (if_pos hb)
theorem line1_call {W : World} (hg : Ck.Consts W) {F : TermD → Int → Bool} {N : Nat} (hF : FitsAt W F N) (hN : N ≤ 16777216) {x : RV} {t : TermD} (hx : x.Is W t) (hwt : t.wt ≤ N + 1) (hop : x.s.op = 11) (d : Int) (h0 : 0 ≤ d) (h1 : d ≤ 64) (w : World) (hw : Ck.Later W w) :
    Calls Tryz.prog 128 #[.agg (x.s.arr (.slice x.p x.n x.m)), .int .i64 5, .int .i64 d] w fun e w' => e = .returned (.bool (lineF F t 5 d)) ∧ Below w.heap.size w w' := by
  have hval : lineF F t 5 d = lineGo F 5 d 1 t.wt t [] 0 := by unfold lineF; rw [hx.s, hop]; rfl
  rw [hval]
  have HF := Lib.hid hF
  have Hg := Lib.hid hg
  have Hw := Lib.hid hw
  have cR := fun w => rev_none w
  have hA1 := Scal.arr_size x.s (.slice x.p x.n x.m)
  have hx0 := hx
  obtain ⟨s, p, n, m⟩ := x
  simp only at hop hA1 ⊢
  have HX := Lib.hid hx0
  clear hF hg hw hx hval hx0
  go_enter Tryz.func128, Tryz.ntmps128
  go_upto_region 2 with fail
  generalize hW1 : World.alloc w _ = W1
  have hbc : Below w.heap.size w W1 := by rw [← hW1]; exact (Below.refl _ _).alloc (Nat.le_refl _) _
  have hC : W1.heap[w.heap.size]? = some (.cells (s.row (.slice p n m)).toArray 29 (0, 0)) := by rw [← hW1]; exact heap_alloc_new _ _
  clear hW1
  obtain ⟨x0, -, -, -, -, -, -, -, -, -, -, -, -, -, -, -, -, -, -⟩ := block_all hC
  rw [hop] at x0
  have HC := Lib.hid hC
  have Hbc := Lib.hid hbc
  have Hop := Lib.hid hop
  clear hC hbc hop
  go_wp2_with fail
  go_loopg [8, 9] t.wt (fun gk v i wr => ∃ (x : RV) (u : TermD) (k : Nat), v = .slice none 0 0 ∧ i = .int .i64 k ∧ x.Is W u ∧ u.wt ≤ gk ∧ u.wt + k ≤ N + 1 ∧ lineGo F 5 d 1 gk u [] k = lineGo F 5 d 1 t.wt t [] 0 ∧ wr.heap[w.heap.size]? = some (.cells x.row.toArray 29 (0, 0)) ∧ Below w.heap.size w wr ∧ (u.wt ≤ N ∨ levelF u.s.op = 5))
  case atStart => exact ⟨_, t, 0, rfl, rfl, HX.out, Nat.le_refl _, by omega, rfl, HC.out, Hbc.out, .inr (by rw [HX.out.s]; show levelF s.op = 5; rw [Hop.out]; rfl)⟩
  case round =>
    obtain ⟨y, u, k, rfl, rfl, hy, hug, huk, hgo, hbox, hbw, hfirst⟩ := hrel
    obtain ⟨g', rfl⟩ : ∃ g', gk = g' + 1 := ⟨gk - 1, by have := u.wt_pos; omega⟩
    have hlr : Ck.Later W wr := later_below Hw.out hbw
    have cL := fun w => level_call y.s.op w
    have cS := fun w hw => Sz.same123 Hg.out y.s none 0 0 y.s.op ⟨#[]⟩ w hw
    have hkid := fun j hj => RV.Is.kid hy (j := j) hj
    have hkw := fun j hj => kid_wt (t := u) (j := j) hj
    have hys := hy.s
    have hyn := hy.n
    have cO := fun (hu : u.wt ≤ N) w hw => operand_call HF.out hy hu (5 + 1) d h0 (by omega) w hw
    have hy0 := hy
    obtain ⟨ys, yp, yn, ym⟩ := y
    simp only at hys hyn cL cS hkid cO
    have hbox : wr.heap[w.heap.size]? = some (.cells (ys.row (.slice yp yn ym)).toArray 29 (0, 0)) := hbox
    obtain ⟨x0, -, -, -, -, -, -, -, -, -, -, -, -, -, -, -, -, -, x18⟩ := block_all hbox
    have Hbox := Lib.hid hbox
    have Hbw := Lib.hid hbw
    have Hlr := Lib.hid hlr
    have Hgo := Lib.hid hgo
    have HcL := Lib.hid cL
    have HcS := Lib.hid cS
    have HcO := Lib.hid cO
    have Hkid := Lib.hid hkid
    have Hkw := Lib.hid hkw
    have Hfirst := Lib.hid hfirst
    have Hys := Lib.hid hys
    have Hyn := Lib.hid hyn
    have lz := lt_of_some hbox
    have hA2 := Scal.arr_size ys (.slice yp yn ym)
    clear hbox hbw hlr hgo cL cS cO hkid hkw hfirst hys hyn hy hy0
    by_cases hlev : levelF ys.op = 5
    · have Hlev := Lib.hid hlev
      rw [hlev] at HcL
      clear hlev
      go_upto_region 8 with (first
        | (go_at_call 122; refine (HcL.out _).mono ?_; rintro e w5 ⟨rfl, hw5⟩; rw [hw5]; clear hw5)
        | (refine wpList_load_row rfl 29 _ rfl w.heap.size rfl 29 (ys.arr (.slice yp yn ym)) (0, 0) _ ((heap_alloc_old _ _ lz).trans Hbox.out) Tryz.underlying29 rfl size29 ?_)
        | (refine wpList_load_row rfl 29 _ rfl w.heap.size rfl 29 (ys.arr (.slice yp yn ym)) (0, 0) _ Hbox.out Tryz.underlying29 rfl size29 ?_)
        | (refine wpList_store_row rfl 29 _ _ rfl wr.heap.size (ys.arr (.slice yp yn ym)) rfl rfl 29 zeroTerm (heap_alloc_new _ _) size29 rfl (Scal.arr_one _ _ _ _) ?_))
      generalize hW2 : World.setRow (World.alloc wr _) _ _ = W2
      have hB1 : W2.heap[w.heap.size]? = some (.cells (ys.row (.slice yp yn ym)).toArray 29 (0, 0)) := by
        rw [← hW2, setRow_far _ _ (by omega), heap_alloc_old _ _ lz]
        exact Hbox.out
      have hB2 : W2.heap[wr.heap.size]? = some (.cells (ys.row (.slice yp yn ym)).toArray 29 (0, 0)) := by
        rw [← hW2]
        exact setRow_heap _ _ _ _ _ _ (heap_alloc_new _ _)
      have hb2 : Below w.heap.size w W2 := by
        rw [← hW2]
        exact below_setRow (Hbw.out.alloc Hbw.out.size _) Hbw.out.size _
      have hk2 : ∀ c, c < wr.heap.size → W2.heap[c]? = wr.heap[c]? := fun c hc => by rw [← hW2, setRow_far _ _ (by omega), heap_alloc_old _ _ hc]
      clear hW2 x0 x18
      have y18 := block18 hB2
      have zf : W2.frozen? ⟨wr.heap.size, 18, none⟩ = false := by simp [World.frozen?, hB2]
      have HB1 := Lib.hid hB1
      have HB2 := Lib.hid hB2
      have Hb2 := Lib.hid hb2
      have Hk2 := Lib.hid hk2
      have hsw0 := Hbw.out.size
      clear hB1 hB2 hb2 hk2
      go_upto_region 9 with fail
      generalize hW3 : World.setCell W2 _ _ = W3
      have hD1 : W3.heap[w.heap.size]? = some (.cells (ys.row (.slice yp yn ym)).toArray 29 (0, 0)) := by
        rw [← hW3, set_other W2 ⟨wr.heap.size, 18, none⟩ (.slice none 0 0) (show w.heap.size ≠ wr.heap.size by omega)]
        exact HB1.out
      have hD2 : W3.heap[wr.heap.size]? = some (.cells (ys.row (.slice none 0 0)).toArray 29 (0, 0)) := by
        rw [← hW3]
        exact set_block (i := 18) HB2.out (.slice none 0 0)
      have hb3 : Below w.heap.size w W3 := by
        rw [← hW3]
        exact set_below Hb2.out hsw0 _
      have hk3 : ∀ c, c < wr.heap.size → W3.heap[c]? = wr.heap[c]? := fun c hc => by rw [← hW3, set_other W2 ⟨wr.heap.size, 18, none⟩ (.slice none 0 0) (show c ≠ wr.heap.size by omega)]; exact Hk2.out c hc
      clear hW3 y18 zf
      obtain ⟨x0, -, -, -, -, -, -, -, -, -, -, -, -, -, -, -, -, -, x18⟩ := block_all hD1
      have HD1 := Lib.hid hD1
      have HD2 := Lib.hid hD2
      have Hb3 := Lib.hid hb3
      have Hl3 : Hid (Ck.Later W W3) := Lib.hid (later_below Hw.out hb3)
      clear hD1 hD2 hb3 hk3
      by_cases hn : yn = 1
      · subst hn
        obtain ⟨q, hq⟩ : ∃ q, Sz.sameB ys 0 ys.op ⟨#[]⟩ = q := ⟨_, rfl⟩
        rw [hq] at HcS
        have Hq := Lib.hid hq
        clear hq
        cases q
        · go_wp2_with (first
            | (go_at_call 123; refine (HcS.out _ Hl3.out).mono ?_; rintro e w5 ⟨rfl, hb5⟩)
            | (refine wpList_load_row' (by rfl) 29 _ rfl wr.heap.size rfl 29 _ (0, 0) _ HD2.out Tryz.underlying29 rfl size29 ?_)
            | (refine wpList_build' (by rfl) 29 _ rfl (bareA ys.op ⟨#[]⟩) (by kernel_rfl) ?_))
          go_ret
          refine ⟨?_, Hb3.out.trans (hb5.mono Hb3.out.size)⟩
          rw [← Hgo.out, lineGo_bad (by rw [Hys.out]; exact Hlev.out) (fun h => by have := h.2; rw [Hys.out, Hq.out] at this; cases this)]
          rfl
        · have hja : 0 < u.args.length := by rw [← Hyn.out]; exact Nat.zero_lt_one
          obtain ⟨b, o, z, hpo, hz, hcl⟩ := Hkid.out 0 hja
          subst hpo
          have hC := hcl W3 Hl3.out
          have hbl : b < W3.heap.size := by
            have := hC 0 _ rfl
            exact World.block_lt_of_cell? W3 _ this
          have HC := Lib.hid hC
          have Hz := Lib.hid hz
          have Hbl := Lib.hid hbl
          have hA3 := Scal.arr_size z.s z.v
          have Hwtz := Lib.hid (Hkw.out 0 hja)
          clear hC hcl hz hbl
          go_wp2_with (first
            | (go_at_call 123; refine (HcS.out _ Hl3.out).mono ?_; rintro e w5 ⟨rfl, hb5⟩; replace x0 := cell_keep hb5 x0; replace x18 := cell_keep hb5 x18)
            | (refine wpList_load_row' (by rfl) 29 _ rfl wr.heap.size rfl 29 _ (0, 0) _ HD2.out Tryz.underlying29 rfl size29 ?_)
            | (refine wpList_build' (by rfl) 29 _ rfl (bareA ys.op ⟨#[]⟩) (by kernel_rfl) ?_)
            | (refine wpList_load_mid rfl 29 _ rfl b (o + 0 * 19) rfl (z.s.row z.v) _ (HC.out.below (hb5.block b Hbl.out)) Tryz.underlying29 rfl size29 ?_)
            | (refine wpList_store_row rfl 29 _ _ rfl w.heap.size (z.s.arr z.v) rfl rfl 29 (ys.arr (.slice (some ⟨b, o, none⟩) 1 ym)) ((hb5.block _ (lt_of_some HD1.out)).trans HD1.out) size29 rfl (Scal.arr_one _ _ _ _) ?_))
          go_roundg g'
          case measure => omega
          case rel =>
            refine ⟨z, u.args[0], k + 1, rfl, rfl, Hz.out, by have := Hwtz.out; omega, by have := Hwtz.out; omega, ?_, ?_, ?_, .inl (by have := Hwtz.out; omega)⟩
            · rw [← Hgo.out, lineGo_on (by rw [Hys.out]; exact Hlev.out) ⟨by rw [← Hyn.out]; rfl, by rw [Hys.out]; exact Hq.out⟩ hja]
              rfl
            · exact setRow_heap _ _ _ _ _ _ ((hb5.block _ (lt_of_some HD1.out)).trans HD1.out)
            · exact below_setRow (Hb3.out.trans (hb5.mono Hb3.out.size)) (Nat.le_refl _) _
      · have hn1 : ((yn : Int) == 1) = false := by rw [beq_eq_false_iff_ne]; omega
        go_wp2_with fail
        go_ret
        refine ⟨?_, Hb3.out⟩
        rw [← Hgo.out, lineGo_bad (by rw [Hys.out]; exact Hlev.out) (fun h => by have := h.1; rw [← Hyn.out] at this; omega)]
        rfl
    · have hlev1 : (levelF ys.op == (5 : Int)) = false := by rw [beq_eq_false_iff_ne]; exact hlev
      have hu : u.wt ≤ N := by
        rcases Hfirst.out with h | h
        · exact h
        · rw [Hys.out] at h; exact absurd h hlev
      have hgo2 : lineGo F 5 d 1 t.wt t [] 0 = (operandF F u 6 d && !(decide ((1 : Int) = 1) && decide (64 < d + k)) && rightsB F 6 d []) := by
        rw [← Hgo.out, lineGo_stop (by rw [Hys.out]; exact hlev)]
        rfl
      have hr0 : rightsB F 6 d [] = true := by
        unfold rightsB
        exact decide_eq_true fun i h => absurd h (Nat.not_lt_zero _)
      rw [hr0] at hgo2
      have cO : ∀ w, Ck.Later W w → Calls Tryz.prog 127 #[.agg (ys.arr (.slice yp yn ym)), .int .i64 6, .int .i64 d] w fun e w' => e = .returned (.bool (operandF F u 6 d)) ∧ Below w.heap.size w w' := HcO.out hu
      generalize operandF F u 6 d = q at cO hgo2
      have Hgo2 := Lib.hid hgo2
      have HcO2 : Hid (∀ w, Ck.Later W w → Calls Tryz.prog 127 #[.agg (ys.arr (.slice yp yn ym)), .int .i64 6, .int .i64 d] w fun e w' => e = .returned (.bool q) ∧ Below w.heap.size w w') := Lib.hid cO
      clear cO HcO hgo2 hr0 hu hlev
      have hk0 : (0 : Int) ≤ (k : Int) := by omega
      have hk1 : (k : Int) ≤ 16777217 := by omega
      cases q
      · go_wp2_with (first
          | (go_at_call 122; refine (HcL.out _).mono ?_; rintro e w5 ⟨rfl, hw5⟩; rw [hw5]; clear hw5)
          | (go_at_call 127; refine (HcO2.out _ Hlr.out).mono ?_; rintro e w5 ⟨rfl, hb5⟩)
          | (refine wpList_load_row rfl 29 _ rfl w.heap.size rfl 29 (ys.arr (.slice yp yn ym)) (0, 0) _ Hbox.out Tryz.underlying29 rfl size29 ?_))
        go_ret
        exact ⟨by rw [Hgo2.out]; rfl, Hbw.out.trans (hb5.mono Hbw.out.size)⟩
      · by_cases hdk : 64 < d + (k : Int)
        · go_wp2_with (first
            | (go_at_call 122; refine (HcL.out _).mono ?_; rintro e w5 ⟨rfl, hw5⟩; rw [hw5]; clear hw5)
            | (go_at_call 127; refine (HcO2.out _ Hlr.out).mono ?_; rintro e w5 ⟨rfl, hb5⟩)
            | (refine wpList_load_row rfl 29 _ rfl w.heap.size rfl 29 (ys.arr (.slice yp yn ym)) (0, 0) _ Hbox.out Tryz.underlying29 rfl size29 ?_))
          go_ret
          exact ⟨by rw [Hgo2.out, decide_eq_true hdk]; rfl, Hbw.out.trans (hb5.mono Hbw.out.size)⟩
        · have hdz : (64 < d + (k : Int)) = False := eq_false hdk
          have Hdk := Lib.hid hdk
          clear hdk
          go_wp2_with (first
            | (go_at_call 122; refine (HcL.out _).mono ?_; rintro e w5 ⟨rfl, hw5⟩; rw [hw5]; clear hw5)
            | (go_at_call 127; refine (HcO2.out _ Hlr.out).mono ?_; rintro e w5 ⟨rfl, hb5⟩)
            | (go_at_call 168; refine (cR _).mono ?_; rintro e w6 ⟨rfl, hw6⟩; rw [hw6]; clear hw6)
            | (refine wpList_load_row rfl 29 _ rfl w.heap.size rfl 29 (ys.arr (.slice yp yn ym)) (0, 0) _ Hbox.out Tryz.underlying29 rfl size29 ?_))
          go_loopw [71] (fun i wx => i = .int .i64 0 ∧ wx = w5) (fun _ _ => 0)
          case atStart => exact ⟨rfl, rfl⟩
          case round =>
            obtain ⟨rfl, rfl⟩ := hrel
            go_wp2_with fail
            go_ret
            exact ⟨by rw [Hgo2.out, decide_eq_false (p := 64 < d + (k : Int)) (by have := Hdk.out; omega)]; rfl, Hbw.out.trans (hb5.mono Hbw.out.size)⟩
open Go Go.RowKit Go.Sort
set_option maxRecDepth 100000
attribute [local go_sem] foldl_row
theorem own_farT {w w' : World} {B : Nat} {e : TypeId} {sz n : Nat} {v : Value} {xs : List Value} (h : w.ownsRow B e sz v n xs) (hk : ∀ b, B ≤ b → b < w.heap.size → w'.heap[b]? = w.heap[b]?) : w'.ownsRow B e sz v n xs := by
  refine ⟨h.1, ?_⟩
  rcases h.2 with h0 | ⟨g, cap, cur, h1, h2, h3, h4⟩
  · exact .inl h0
  · refine .inr ⟨g, cap, cur, h1, h2, ?_, h4⟩
    rw [hk g h2 (lt_of_some h3)]
    exact h3
theorem rev_cells {w : World} {g : Nat} {xs : List RV} (h : HoldsK RV.row 19 w g 0 xs.reverse.toArray) {i : Nat} (hi : i < xs.reverse.length) : Cells w g (i * 19) xs.reverse[i].s xs.reverse[i].v := by
  intro j u hu
  have hj : j < 19 := (List.getElem?_eq_some_iff.1 hu).1
  have e := (h.cell (i := i) (c := j) (by simpa using hi) hj).1
  have e2 : (xs.reverse.toArray[i]!) = xs.reverse[i] := (getElem!_pos xs.reverse.toArray i (by simpa using hi)).trans (by simp)
  rw [e2] at e
  have e3 : (RV.row xs.reverse[i])[j]! = u := by
    rw [List.getElem!_eq_getElem?_getD]
    have : (RV.row xs.reverse[i])[j]? = some u := hu
    rw [this]
    rfl
  rw [e3, Nat.zero_add] at e
  exact e
theorem holdsK_same {w w' : World} {g : Nat} {d : Array RV} (h : HoldsK RV.row 19 w g 0 d) (hk : w'.heap[g]? = w.heap[g]?) : HoldsK RV.row 19 w' g 0 d := fun t ht => by
  obtain ⟨h1, h2⟩ := h t ht
  exact ⟨(World.cell?_of_block (a := ⟨g, 0 + t, none⟩) hk).trans h1, (World.frozen?_of_block (a := ⟨g, 0 + t, none⟩) hk).trans h2⟩
theorem rev_after {w5 w6 : World} {g nn : Nat} {xs : List RV} (h : HoldsK RV.row 19 w5 g 0 xs.toArray) (hw : w6 = putRowK RV.row 19 (Go.Sort.ahead w5 nn) g 0 xs.toArray.reverse) : HoldsK RV.row 19 w6 g 0 xs.reverse.toArray ∧ ∀ B w0, Below B w0 w5 → B ≤ g → Below B w0 w6 := by
  have h0 := holdsK_putRowK (enc := RV.row) (k := 19) (Go.Sort.ahead w5 nn) g 0 xs.toArray xs.toArray.reverse (holdsK_ahead _ _ _ _ _ _ _ h) (by simp)
  refine ⟨?_, fun B w0 hb hB => ?_⟩
  · rw [hw]
    have e : xs.toArray.reverse = xs.reverse.toArray := List.reverse_toArray
    rw [e] at h0 ⊢
    exact h0
  · rw [hw]
    exact Lib.below_putRow hb hB
theorem line2_call {W : World} (hg : Ck.Consts W) {F : TermD → Int → Bool} {N : Nat} (hF : FitsAt W F N) (hN : N ≤ 16777216) {x : RV} {t : TermD} (hx : x.Is W t) (hwt : t.wt ≤ N + 1) (hop : ¬ x.s.op = 11) (l : Int) (hl : -1000 ≤ l ∧ l ≤ 1000) (hlev0 : levelF x.s.op = l) (d : Int) (h0 : 0 ≤ d) (h1 : d ≤ 64) (w : World) (hw : Ck.Later W w) :
    Calls Tryz.prog 128 #[.agg (x.s.arr (.slice x.p x.n x.m)), .int .i64 l, .int .i64 d] w fun e w' => e = .returned (.bool (lineF F t l d)) ∧ Below w.heap.size w w' := by
  have hval : lineF F t l d = lineGo F l d 2 t.wt t [] 0 := by unfold lineF; rw [hx.s, if_neg hop]
  rw [hval]
  obtain ⟨i29, hi29, hz29, hs29', hy29⟩ := info_parts info29
  have Hi29 := Lib.hid hi29
  have Hz29 := Lib.hid hz29
  have Hs29' := Lib.hid hs29'
  have Hy29 := Lib.hid hy29
  clear hi29 hz29 hs29' hy29
  have HF := Lib.hid hF
  have Hg := Lib.hid hg
  have Hw := Lib.hid hw
  have hA1 := Scal.arr_size x.s (.slice x.p x.n x.m)
  have hx0 := hx
  have hop2 : (x.s.op == (11 : Int)) = false := by rw [beq_eq_false_iff_ne]; exact hop
  obtain ⟨s, p, n, m⟩ := x
  simp only at hop2 hlev0 hA1 ⊢
  have HX := Lib.hid hx0
  have Hlev0 := Lib.hid hlev0
  obtain ⟨hl0, hl1⟩ := hl
  clear hF hg hw hx hval hx0 hop hlev0
  go_enter Tryz.func128, Tryz.ntmps128
  go_upto_region 2 with fail
  generalize hW1 : World.alloc w _ = W1
  have hbc : Below w.heap.size w W1 := by rw [← hW1]; exact (Below.refl _ _).alloc (Nat.le_refl _) _
  have hC : W1.heap[w.heap.size]? = some (.cells (s.row (.slice p n m)).toArray 29 (0, 0)) := by rw [← hW1]; exact heap_alloc_new _ _
  clear hW1
  obtain ⟨x0, -, -, -, -, -, -, -, -, -, -, -, -, -, -, -, -, -, -⟩ := block_all hC
  have HC := Lib.hid hC
  have Hbc := Lib.hid hbc
  clear hC hbc
  go_wp2_with fail
  go_loopg [8, 9] t.wt (fun gk v i wr => ∃ (x : RV) (u : TermD) (k : Nat) (v' : Value) (cs : List Value) (xs : List RV) (ts : List TermD), v = v' ∧ i = .int .i64 k ∧ x.Is W u ∧ u.wt ≤ gk ∧ u.wt + k ≤ N + 1 ∧ xs.length = k ∧ (∀ i (h : i < ts.length), ts[i].wt ≤ N) ∧ Gath W wr (w.heap.size + 1) v' cs xs ts ∧ lineGo F l d 2 gk u ts k = lineGo F l d 2 t.wt t [] 0 ∧ wr.heap[w.heap.size]? = some (.cells x.row.toArray 29 (0, 0)) ∧ Below w.heap.size w wr ∧ ((u.wt ≤ N ∧ 0 < k) ∨ levelF u.s.op = l))
  case atStart => exact ⟨_, t, 0, _, [], [], [], rfl, rfl, HX.out, Nat.le_refl _, by omega, rfl, fun i h => absurd h (Nat.not_lt_zero _), Gath.nil _ _ _, rfl, HC.out, Hbc.out, .inr (by rw [HX.out.s]; exact Hlev0.out)⟩
  case round =>
    obtain ⟨y, u, k, v, cs, xs, ts, hv, rfl, hy, hug, huk, hxk, hts, hG, hgo, hbox, hbw, hfirst⟩ := hrel
    obtain ⟨g', rfl⟩ : ∃ g', gk = g' + 1 := ⟨gk - 1, by have := u.wt_pos; omega⟩
    have hlr : Ck.Later W wr := later_below Hw.out hbw
    have cL := fun w => level_call y.s.op w
    have cS := fun w hw => Sz.same123 Hg.out y.s none 0 0 y.s.op ⟨#[]⟩ w hw
    have hkid := fun j hj => RV.Is.kid hy (j := j) hj
    have hkw := fun j hj => kid_wt (t := u) (j := j) hj
    have hys := hy.s
    have hyn := hy.n
    have cO := fun (hu : u.wt ≤ N) w hw => operand_call HF.out hy hu (l + 1) d h0 (by omega) w hw
    have hy0 := hy
    obtain ⟨ys, yp, yn, ym⟩ := y
    simp only at hys hyn cL cS hkid cO
    have hbox : wr.heap[w.heap.size]? = some (.cells (ys.row (.slice yp yn ym)).toArray 29 (0, 0)) := hbox
    obtain ⟨x0, -, -, -, -, -, -, -, -, -, -, -, -, -, -, -, -, -, x18⟩ := block_all hbox
    have Hbox := Lib.hid hbox
    have Hbw := Lib.hid hbw
    have Hlr := Lib.hid hlr
    have Hgo := Lib.hid hgo
    have HG := Lib.hid hG
    have Hts := Lib.hid hts
    have HcL := Lib.hid cL
    have HcS := Lib.hid cS
    have HcO := Lib.hid cO
    have Hkid := Lib.hid hkid
    have Hkw := Lib.hid hkw
    have Hfirst := Lib.hid hfirst
    have Hys := Lib.hid hys
    have Hyn := Lib.hid hyn
    have lz := lt_of_some hbox
    have hA2 := Scal.arr_size ys (.slice yp yn ym)
    clear hbox hbw hlr hgo cL cS cO hkid hkw hfirst hys hyn hy hy0 hG hts
    by_cases hlev : levelF ys.op = l
    · have Hlev := Lib.hid hlev
      rw [hlev] at HcL
      clear hlev
      go_upto_region 8 with (first
        | (go_at_call 122; refine (HcL.out _).mono ?_; rintro e w5 ⟨rfl, hw5⟩; rw [hw5]; clear hw5)
        | (refine wpList_load_row rfl 29 _ rfl w.heap.size rfl 29 (ys.arr (.slice yp yn ym)) (0, 0) _ ((heap_alloc_old _ _ lz).trans Hbox.out) Tryz.underlying29 rfl size29 ?_)
        | (refine wpList_load_row rfl 29 _ rfl w.heap.size rfl 29 (ys.arr (.slice yp yn ym)) (0, 0) _ Hbox.out Tryz.underlying29 rfl size29 ?_)
        | (refine wpList_store_row rfl 29 _ _ rfl wr.heap.size (ys.arr (.slice yp yn ym)) rfl rfl 29 zeroTerm (heap_alloc_new _ _) size29 rfl (Scal.arr_one _ _ _ _) ?_))
      generalize hW2 : World.setRow (World.alloc wr _) _ _ = W2
      have hB1 : W2.heap[w.heap.size]? = some (.cells (ys.row (.slice yp yn ym)).toArray 29 (0, 0)) := by
        rw [← hW2, setRow_far _ _ (by omega), heap_alloc_old _ _ lz]
        exact Hbox.out
      have hB2 : W2.heap[wr.heap.size]? = some (.cells (ys.row (.slice yp yn ym)).toArray 29 (0, 0)) := by
        rw [← hW2]
        exact setRow_heap _ _ _ _ _ _ (heap_alloc_new _ _)
      have hb2 : Below w.heap.size w W2 := by
        rw [← hW2]
        exact below_setRow (Hbw.out.alloc Hbw.out.size _) Hbw.out.size _
      have hk2 : ∀ c, c < wr.heap.size → W2.heap[c]? = wr.heap[c]? := fun c hc => by rw [← hW2, setRow_far _ _ (by omega), heap_alloc_old _ _ hc]
      clear hW2 x0 x18
      have y18 := block18 hB2
      have zf : W2.frozen? ⟨wr.heap.size, 18, none⟩ = false := by simp [World.frozen?, hB2]
      have HB1 := Lib.hid hB1
      have HB2 := Lib.hid hB2
      have Hb2 := Lib.hid hb2
      have Hk2 := Lib.hid hk2
      have hsw0 := Hbw.out.size
      clear hB1 hB2 hb2 hk2
      go_upto_region 9 with fail
      generalize hW3 : World.setCell W2 _ _ = W3
      have hD1 : W3.heap[w.heap.size]? = some (.cells (ys.row (.slice yp yn ym)).toArray 29 (0, 0)) := by
        rw [← hW3, set_other W2 ⟨wr.heap.size, 18, none⟩ (.slice none 0 0) (show w.heap.size ≠ wr.heap.size by omega)]
        exact HB1.out
      have hD2 : W3.heap[wr.heap.size]? = some (.cells (ys.row (.slice none 0 0)).toArray 29 (0, 0)) := by
        rw [← hW3]
        exact set_block (i := 18) HB2.out (.slice none 0 0)
      have hb3 : Below w.heap.size w W3 := by
        rw [← hW3]
        exact set_below Hb2.out hsw0 _
      have hk3 : ∀ c, c < wr.heap.size → W3.heap[c]? = wr.heap[c]? := fun c hc => by rw [← hW3, set_other W2 ⟨wr.heap.size, 18, none⟩ (.slice none 0 0) (show c ≠ wr.heap.size by omega)]; exact Hk2.out c hc
      clear hW3 y18 zf
      obtain ⟨x0, -, -, -, -, -, -, -, -, -, -, -, -, -, -, -, -, -, x18⟩ := block_all hD1
      have HD1 := Lib.hid hD1
      have HD2 := Lib.hid hD2
      have Hb3 := Lib.hid hb3
      have Hl3 : Hid (Ck.Later W W3) := Lib.hid (later_below Hw.out hb3)
      have hs3 : wr.heap.size < W3.heap.size := lt_of_some hD2
      have Hk3 := Lib.hid hk3
      clear hk3
      clear hD1 hD2 hb3
      by_cases hn : yn = 2
      · subst hn
        obtain ⟨q, hq⟩ : ∃ q, Sz.sameB ys 0 ys.op ⟨#[]⟩ = q := ⟨_, rfl⟩
        rw [hq] at HcS
        have Hq := Lib.hid hq
        clear hq
        cases q
        · go_wp2_with (first
            | (go_at_call 123; refine (HcS.out _ Hl3.out).mono ?_; rintro e w5 ⟨rfl, hb5⟩)
            | (refine wpList_load_row' (by rfl) 29 _ rfl wr.heap.size rfl 29 _ (0, 0) _ HD2.out Tryz.underlying29 rfl size29 ?_)
            | (refine wpList_build' (by rfl) 29 _ rfl (bareA ys.op ⟨#[]⟩) (by kernel_rfl) ?_))
          go_ret
          refine ⟨?_, Hb3.out.trans (hb5.mono Hb3.out.size)⟩
          rw [← Hgo.out, lineGo_bad (by rw [Hys.out]; exact Hlev.out) (fun h => by have := h.2; rw [Hys.out, Hq.out] at this; cases this)]
          rfl
        · have hja : 0 < u.args.length := by rw [← Hyn.out]; exact Nat.zero_lt_two
          have hjb : 1 < u.args.length := by rw [← Hyn.out]; exact Nat.one_lt_two
          obtain ⟨b, o, z, hpo, hz, hcl⟩ := Hkid.out 0 hja
          obtain ⟨b', o', z', hpo', hz', hcl'⟩ := Hkid.out 1 hjb
          subst hpo
          cases hpo'
          have hC := hcl W3 Hl3.out
          have hC' := hcl' W3 Hl3.out
          have hbl : b < W3.heap.size := by
            have := hC 0 _ rfl
            exact World.block_lt_of_cell? W3 _ this
          have hbW : b < W.heap.size := by
            have := (hcl W ⟨Nat.le_refl _, fun _ _ => rfl⟩) 0 _ rfl
            exact World.block_lt_of_cell? W _ this
          have HC := Lib.hid hC
          have HC' := Lib.hid hC'
          have Hz := Lib.hid hz
          have Hz' := Lib.hid hz'
          have Hbl := Lib.hid hbl
          have HbW := Lib.hid hbW
          have hA3 := Scal.arr_size z.s z.v
          have hA4 := Scal.arr_size z'.s z'.v
          have Hwtz := Lib.hid (Hkw.out 0 hja)
          have Hwtz' := Lib.hid (Hkw.out 1 hjb)
          have hown3 := own_farT HG.out.own (w' := W3) (fun c _ hc => Hk3.out c hc)
          have Hown3 := Lib.hid hown3
          have hxl : xs.length ≤ 16777217 := by omega
          have Hxl := Lib.hid hxl
          have hsw := Hbw.out.size
          have hblp : b < W3.heap.size := hbl
          have hbw0 : b < w.heap.size := Nat.lt_of_lt_of_le hbW Hw.out.1
          clear hC hcl hC' hcl' hz hz' hbl hbW hown3 hxl
          go_wp2_with (first
            | (go_at_call 123; refine (HcS.out _ Hl3.out).mono ?_; rintro e w5 ⟨rfl, hb5⟩; replace x0 := cell_keep hb5 x0; replace x18 := cell_keep hb5 x18; have hs5 := hb5.size)
            | (refine wpList_load_row' (by rfl) 29 _ rfl wr.heap.size rfl 29 _ (0, 0) _ HD2.out Tryz.underlying29 rfl size29 ?_)
            | (refine wpList_build' (by rfl) 29 _ rfl (bareA ys.op ⟨#[]⟩) (by kernel_rfl) ?_)
            | (refine wpList_load_mid rfl 29 _ rfl b (o + 1 * 19) rfl (z'.s.row z'.v) _ (HC'.out.below (hb5.block b Hbl.out)) Tryz.underlying29 rfl size29 ?_)
            | (at_builtin; go_loud (refine wpList_append_lies _ rfl (.tmp 38) (.tmp 43) 27 rfl (w.heap.size + 1) 29 i29 _ 19 176 Tryz.underlying27 Hi29.out Hz29.out Hs29'.out Hy29.out rfl (by omega) v xs.length cs rfl ((own_farT Hown3.out (w' := w5) (fun c _ hc => hb5.block c hc)).alloc _) ⟨w5.heap.size, 0, none⟩ 1 1 (z'.s.row z'.v) rfl rfl (World.news_of_block (heap_alloc_new w5 _)) (Scal.row_one _ _ _ _) (by omega) (by have := Hxl.out; unfold maxLen; omega) (by omega) (by simp; omega) (w5.heap.size + 1) (by simp) ?_; intro g cap w6 hown6 hgrow hat hlt6; have hbx6 := far_block hb5 hgrow HD1.out (fun e => by have := (Hown3.out.lt _ e.symm).1; omega); have x18' := block18 hbx6; have Hbx6 := Lib.hid hbx6; clear hbx6))
            | (refine wpList_load_mid rfl 29 _ rfl b (o + 0 * 19) rfl (z.s.row z.v) _ (HC.out.below ((hgrow.block b (by simp; omega) (fun e => by have := (Hown3.out.lt _ e.symm).1; omega)).trans ((heap_alloc_old _ _ (by omega)).trans (hb5.block b hblp)))) Tryz.underlying29 rfl size29 ?_)
            | (refine wpList_store_row rfl 29 _ _ rfl w.heap.size (z.s.arr z.v) rfl rfl 29 (ys.arr (.slice (some ⟨b, o, none⟩) 2 ym)) Hbx6.out size29 rfl (Scal.arr_one _ _ _ _) ?_))
          have hs6 := hgrow.size
          rw [size_alloc'] at hs6
          go_roundg g'
          case measure => omega
          case rel =>
            refine ⟨z, u.args[0], k + 1, _, cs ++ z'.row, xs ++ [z'], ts ++ [u.args[1]], rfl, rfl, Hz.out, by have := Hwtz.out; omega, by have := Hwtz.out; omega, by simp; omega, fun i h => ?_, ?_, ?_, ?_, ?_, .inl ⟨by have := Hwtz.out; omega, Nat.succ_pos _⟩⟩
            · rcases Nat.lt_or_ge i ts.length with h5 | h5
              · rw [List.getElem_append_left h5]
                exact Hts.out i h5
              · rw [List.getElem_append_right h5]
                simp only [List.getElem_singleton]
                have := Hwtz'.out
                omega
            · rw [show (Value.slice (some ⟨g, 0, none⟩) (k + 1) cap) = Value.slice (some ⟨g, 0, none⟩) (xs.length + 1) cap by rw [hxk]]
              exact HG.out.add Hz'.out (own_farT hown6 (fun c hB _ => setRow_far _ _ (by omega)))
            · rw [← Hgo.out, lineGo_on (by rw [Hys.out]; exact Hlev.out) ⟨by rw [← Hyn.out]; rfl, by rw [Hys.out]; exact Hq.out⟩ hja, if_pos rfl]
              have e : (u.args.drop 1).take 1 = [u.args[1]] := by
                rw [List.drop_eq_getElem_cons hjb]
                rfl
              rw [e]
              rfl
            · exact setRow_heap _ _ _ _ _ _ (far_block hb5 hgrow HD1.out (fun e => by have := (Hown3.out.lt _ e.symm).1; omega))
            · exact below_setRow (below_grow ((Hb3.out.trans (hb5.mono Hb3.out.size)).alloc (Hb3.out.trans (hb5.mono Hb3.out.size)).size _) hgrow (fun c hc => by have := (Hown3.out.lt c hc).1; omega)) (Nat.le_refl _) _
      · have hn1 : ((yn : Int) == 2) = false := by rw [beq_eq_false_iff_ne]; omega
        go_wp2_with fail
        go_ret
        refine ⟨?_, Hb3.out⟩
        rw [← Hgo.out, lineGo_bad (by rw [Hys.out]; exact Hlev.out) (fun h => by have := h.1; rw [← Hyn.out] at this; omega)]
        rfl
    · have hlev1 : (levelF ys.op == l) = false := by rw [beq_eq_false_iff_ne]; exact hlev
      have huk : u.wt ≤ N ∧ 0 < k := by
        rcases Hfirst.out with h | h
        · exact h
        · rw [Hys.out] at h; exact absurd h hlev
      obtain ⟨hu, hk0⟩ := huk
      have hgo2 : lineGo F l d 2 t.wt t [] 0 = (operandF F u (l + 1) d && !(decide ((2 : Int) = 1) && decide (64 < d + k)) && rightsB F (l + 1) d ts.reverse) := by
        rw [← Hgo.out, lineGo_stop (by rw [Hys.out]; exact hlev)]
        rfl
      have cO := HcO.out hu
      generalize operandF F u (l + 1) d = q at cO hgo2
      have Hgo2 := Lib.hid hgo2
      have HcO2 : Hid (∀ w, Ck.Later W w → Calls Tryz.prog 127 #[.agg (ys.arr (.slice yp yn ym)), .int .i64 (l + 1), .int .i64 d] w fun e w' => e = .returned (.bool q) ∧ Below w.heap.size w w') := Lib.hid cO
      clear cO HcO hgo2 hu hlev
      have hk1 : (k : Int) ≤ 16777217 := by omega
      cases q
      · go_wp2_with (first
          | (go_at_call 122; refine (HcL.out _).mono ?_; rintro e w5 ⟨rfl, hw5⟩; rw [hw5]; clear hw5)
          | (go_at_call 127; refine (HcO2.out _ Hlr.out).mono ?_; rintro e w5 ⟨rfl, hb5⟩)
          | (refine wpList_load_row rfl 29 _ rfl w.heap.size rfl 29 (ys.arr (.slice yp yn ym)) (0, 0) _ Hbox.out Tryz.underlying29 rfl size29 ?_))
        go_ret
        exact ⟨by rw [Hgo2.out]; rfl, Hbw.out.trans (hb5.mono Hbw.out.size)⟩
      · obtain ⟨g, cap, hvv, hgB, hgl⟩ : ∃ g cap, v = .slice (some ⟨g, 0, none⟩) k cap ∧ w.heap.size + 1 ≤ g ∧ g < wr.heap.size := by
          rcases HG.out.own.2 with ⟨_, h⟩ | ⟨g, cap, cur, h1, h2, h3, h4⟩
          · omega
          · exact ⟨g, cap, by rw [h1, hxk], h2, lt_of_some h3⟩
        have hG := HG.out
        subst hvv
        have hxk0 := hxk
        rw [← hxk] at hG
        have hHold := hG.holds
        have HcRev := Lib.hid (fun w' h => rev_some g cap k xs hxk (by omega) w' h)
        have HHold := Lib.hid hHold
        have Hlen : Hid (ts.length = k) := Lib.hid (by rw [hG.len, hxk])
        have His := Lib.hid hG.is
        clear hG hHold
        go_wp2_with (first
          | (go_at_call 122; refine (HcL.out _).mono ?_; rintro e w5 ⟨rfl, hw5⟩; rw [hw5]; clear hw5)
          | (go_at_call 127; refine (HcO2.out _ Hlr.out).mono ?_; rintro e w5 ⟨rfl, hb5⟩)
          | (go_at_call 168; refine (HcRev.out _ (holdsK_same HHold.out (hb5.block g hgl))).mono ?_; rintro e w6 ⟨rfl, nn, hw6⟩; obtain ⟨hrev, hb6w⟩ := rev_after (holdsK_same HHold.out (hb5.block g hgl)) hw6; clear hw6)
          | (refine wpList_load_row rfl 29 _ rfl w.heap.size rfl 29 (ys.arr (.slice yp yn ym)) (0, 0) _ Hbox.out Tryz.underlying29 rfl size29 ?_))
        have hb6 := hb6w _ _ (Hbw.out.trans (hb5.mono Hbw.out.size)) (by omega)
        have Hrev := Lib.hid hrev
        have Hb6 := Lib.hid hb6
        have hg6 : g < w6.heap.size := by
          have := (hrev.cell (i := 0) (c := 0) (by simp; omega) (by omega)).1
          exact World.block_lt_of_cell? w6 _ this
        clear hrev hb6 hb6w hb5
        go_loopw [71] (fun i wx => ∃ j : Nat, i = .int .i64 j ∧ j ≤ k ∧ (∀ i (h : i < ts.reverse.length), i < j → operandF F ts.reverse[i] (l + 1) (d + (i : Int) + 1) = true) ∧ wx.heap[g]? = w6.heap[g]? ∧ Below w.heap.size w wx) (fun i _ => k - (intOf i).toNat)
        case atStart => exact ⟨0, rfl, Nat.zero_le _, fun i h hi => absurd hi (Nat.not_lt_zero _), rfl, Hb6.out⟩
        case round =>
          obtain ⟨j, rfl, hj, hgood, hkg, hbw⟩ := hrel
          rcases Nat.lt_or_ge j k with hlt | hge
          · have hjr : j < xs.reverse.length := by rw [List.length_reverse, hxk]; exact hlt
            have hjt : j < ts.reverse.length := by rw [List.length_reverse, Hlen.out]; exact hlt
            have hC := rev_cells (holdsK_same Hrev.out hkg) hjr
            have hlx : Ck.Later W wr := later_below Hw.out hbw
            have his : (xs.reverse[j]).Is W ts.reverse[j] := by
              rw [List.getElem_reverse, List.getElem_reverse]
              have := His.out (xs.length - 1 - j) (by omega) (by rw [Hlen.out]; omega)
              simp only [Hlen.out, hxk] at this ⊢
              exact this
            have hwj : ts.reverse[j].wt ≤ N := by
              rw [List.getElem_reverse]
              exact Hts.out _ _
            have cJ := fun w hw => operand_call HF.out his hwj (l + 1) (d + (j : Int) + 1) (by omega) (by omega) w hw
            have hfalse : operandF F ts.reverse[j] (l + 1) (d + (j : Int) + 1) = false → rightsB F (l + 1) d ts.reverse = false := fun h => by
              unfold rightsB
              refine decide_eq_false fun hh => ?_
              have := hh j hjt
              rw [h] at this
              cases this
            obtain ⟨q, hq⟩ : ∃ q, operandF F ts.reverse[j] (l + 1) (d + (j : Int) + 1) = q := ⟨_, rfl⟩
            rw [hq] at cJ
            obtain ⟨z, hz⟩ : ∃ z, xs.reverse[j] = z := ⟨_, rfl⟩
            rw [hz] at hC cJ
            have HC := Lib.hid hC
            have HcJ := Lib.hid cJ
            have Hfalse := Lib.hid hfalse
            have Hgood := Lib.hid hgood
            have Hbw6 := Lib.hid hbw
            have Hkg := Lib.hid hkg
            have Hq := Lib.hid hq
            have Hlx := Lib.hid hlx
            clear hC cJ hfalse hgood hbw hkg hq hlx his hwj hz
            have hjz : (j : Int) < (k : Int) := by omega
            have hj0 : (0 : Int) ≤ (j : Int) := by omega
            have hA6 := Scal.arr_size z.s z.v
            have hgr : g < wr.heap.size := by
              have := HC.out 0 _ rfl
              exact World.block_lt_of_cell? wr _ this
            go_upto_region 21 with (first
              | (refine wpList_load_mid rfl 29 _ rfl g (j * 19) rfl (z.s.row z.v) _ HC.out Tryz.underlying29 rfl size29 ?_)
              | (refine wpList_store_row rfl 29 _ _ rfl wr.heap.size (z.s.arr z.v) rfl rfl 29 zeroTerm (heap_alloc_new _ _) size29 rfl (Scal.arr_one _ _ _ _) ?_))
            generalize hW1 : World.setRow _ _ _ = W8
            have hB8 : W8.heap[wr.heap.size]? = some (.cells (z.s.row z.v).toArray 29 (0, 0)) := by
              rw [← hW1]
              exact setRow_heap _ _ _ _ _ _ (heap_alloc_new _ _)
            have hb8 : Below w.heap.size w W8 := by
              rw [← hW1]
              exact below_setRow (Hbw6.out.alloc Hbw6.out.size _) Hbw6.out.size _
            have hg8 : W8.heap[g]? = w6.heap[g]? := by
              rw [← hW1, setRow_far _ _ (by omega), heap_alloc_old _ _ hgr]
              exact Hkg.out
            have hs8 : wr.heap.size < W8.heap.size := lt_of_some hB8
            clear hW1
            have HB8 := Lib.hid hB8
            have Hb8 := Lib.hid hb8
            have Hg8 := Lib.hid hg8
            have Hl8 := Lib.hid (later_below Hw.out hb8)
            clear hB8 hb8 hg8
            cases q
            · go_wp2_with (first
                | (go_at_call 127; refine (HcJ.out _ Hl8.out).mono ?_; rintro e w7 ⟨rfl, hb7⟩)
                | (refine wpList_load_row rfl 29 _ rfl wr.heap.size rfl 29 (z.s.arr z.v) (0, 0) _ HB8.out Tryz.underlying29 rfl size29 ?_))
              go_ret
              exact ⟨by rw [Hgo2.out, Hfalse.out Hq.out]; rfl, Hb8.out.trans (hb7.mono Hb8.out.size)⟩
            · go_wp2_with (first
                | (go_at_call 127; refine (HcJ.out _ Hl8.out).mono ?_; rintro e w7 ⟨rfl, hb7⟩)
                | (refine wpList_load_row rfl 29 _ rfl wr.heap.size rfl 29 (z.s.arr z.v) (0, 0) _ HB8.out Tryz.underlying29 rfl size29 ?_))
              refine ⟨⟨j + 1, rfl, hlt, fun i h hi => ?_, (hb7.block g (by omega)).trans Hg8.out, Hb8.out.trans (hb7.mono Hb8.out.size)⟩, by simp only [intOf]; omega⟩
              rcases Nat.lt_or_ge i j with h5 | h5
              · exact Hgood.out i h h5
              · obtain rfl : i = j := by omega
                exact Hq.out
          · obtain rfl : j = k := by omega
            have hjz : ((j : Int) < (j : Int)) = False := eq_false (by omega)
            have hv : rightsB F (l + 1) d ts.reverse = true := by
              unfold rightsB
              exact decide_eq_true fun i h => hgood i h (by rw [List.length_reverse, Hlen.out] at h; exact h)
            have Hv := Lib.hid hv
            clear hv hgood
            go_wp2_with fail
            go_ret
            exact ⟨by rw [Hgo2.out, Hv.out]; rfl, hbw⟩
end Go.Proofs.YtkeibmkcgnppeaaGreatDoor

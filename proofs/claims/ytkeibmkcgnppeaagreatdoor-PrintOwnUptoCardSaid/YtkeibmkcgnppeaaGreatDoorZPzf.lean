/- Every term that can be printed has a text; the writer s text; print.written. -/
import Derived.Test.YtkeibmkcgnppeaaGreatDoorZPz
import Derived.Test.YtkeibmkcgnppeaaGreatDoorZPzc
import Derived.Test.YtkeibmkcgnppeaaGreatDoorZPv
import Derived.Test.YtkeibmkcgnppeaaGreatDoorZPt
import Derived.Defers
import Derived.Recover
import Derived.Shelf.Strings.BuilderF
set_option maxHeartbeats 32000000
namespace Go.Proofs.YtkeibmkcgnppeaaGreatDoor
open Go Go.RowKit
set_option maxRecDepth 100000
theorem leaf_out {W : World} {H L : Nat → Nat} (hg : Ck.Consts W) (hT : Ck.Tabs W) (hn : NumW W H L) (hTab : TabOk H L) {t : TermD} (hok : t.s.OK) (h : LeafKind t.s) : ∃ o, TermOut W t o := by
  rcases h with ⟨h1, hf⟩ | h2 | h3 | h4 | h5 | h8
  · obtain ⟨tx, hsz, c1, _⟩ := texts_all H L hTab t.s.num hf hok.num
    exact ⟨_, tout_1 hsz (fun w hw => c1 w (num_later hn hw)) h1⟩
  · obtain ⟨tx, k, hsz, c⟩ := quote_call hg hT hn t.s.tx hok.tx
    exact ⟨_, tout_2 hsz c h2⟩
  · exact ⟨_, tout_3 h3⟩
  · obtain ⟨tx, k, hsz, c⟩ := ref_text hg hT hn t.s hok
    refine ⟨_, tout_4 hsz rfl ?_ c h4⟩
    simp only [ByteArray.size_append]
    have e1 : (ByteArray.mk #[91]).size = 1 := rfl
    have e2 : (ByteArray.mk #[93]).size = 1 := rfl
    omega
  · exact ⟨_, tout_5 (fun s h => Nat.le_trans h.nm (by decide)) h5⟩
  · exact ⟨_, tout_8 h8⟩
theorem leaf_not6 {s : Scal} (h : LeafKind s) : (s.op == (6 : Int)) = false := by
  rw [beq_eq_false_iff_ne]
  rcases h with ⟨h, _⟩ | h | h | h | h | h <;> omega
theorem kid_of {W : World} {t u : TermD} (h : ∃ x : RV, x.Is W t) (hu : u ∈ t.args) : ∃ y : RV, y.Is W u := by
  obtain ⟨x, hx⟩ := h
  exact kid_is hx hu
open Classical in
theorem pr_out {W : World} {H L : Nat → Nat} (hg : Ck.Consts W) (hT : Ck.Tabs W) (hn : NumW W H L) (hTab : TabOk H L) {t : TermD} (h : Pr t) : (∃ x : RV, x.Is W t) → ∃ o, TermOut W t o := by
  induction h with
  | @leaf t hk =>
    rintro ⟨x, hx⟩
    exact leaf_out hg hT hn hTab (by rw [hx.s]; exact hx.ok) hk
  | @call t hop _ ih =>
    intro hx
    have hk : ∀ i, ∃ o, ∀ h : i < t.args.length, TermOut W t.args[i] o := fun i => by
      by_cases h : i < t.args.length
      · obtain ⟨o, ho⟩ := ih _ (List.getElem_mem h) (kid_of hx (List.getElem_mem h))
        exact ⟨o, fun _ => ho⟩
      · exact ⟨[], fun h1 => absurd h1 h⟩
    obtain ⟨x, hx⟩ := hx
    have hnm : t.s.nm.size ≤ 1048576 := by rw [hx.s]; exact hx.ok.nm
    refine ⟨_, tout_6 rfl ?_ hnm (os := fun i => (hk i).choose) (fun i h => (hk i).choose_spec h) hop⟩
    simp only [ByteArray.size_append]
    have e1 : (ByteArray.mk #[40]).size = 1 := rfl
    omega
  | @arr t hop h1 h2 h3 ih =>
    intro hx
    have hlen : t.args.length ≤ 1048576 := by
      obtain ⟨x, hx⟩ := hx
      rw [← hx.n]
      exact hx.len
    have hk : ∀ i, ∃ o, ∀ h : i < t.args.length, (t.args[i].s.op = 6 ∧ t.args[i].s.nm.data.toList = o ∧ t.args[i].s.nm.size ≤ 1048576) ∨ ((t.args[i].s.op == (6 : Int)) = false ∧ TermOut W t.args[i] o) := fun i => by
      by_cases h : i < t.args.length
      · obtain ⟨y, hy⟩ := kid_of hx (List.getElem_mem h)
        have hok : t.args[i].s.OK := by rw [hy.s]; exact hy.ok
        rcases ih _ (List.getElem_mem h) with h6 | hl
        · exact ⟨t.args[i].s.nm.data.toList, fun _ => .inl ⟨h6, rfl, hok.nm⟩⟩
        · obtain ⟨o, ho⟩ := leaf_out hg hT hn hTab hok hl
          exact ⟨o, fun _ => .inr ⟨leaf_not6 hl, ho⟩⟩
      · exact ⟨[], fun h1 => absurd h1 h⟩
    have hpos : (0 : Int) < t.s.rw := by omega
    have hd : t.s.rw ∣ (t.args.length : Int) := Int.dvd_of_emod_eq_zero h3
    obtain ⟨q, hq⟩ := hd
    have hq1 : 1 ≤ q := by
      rcases (show q < 1 ∨ 1 ≤ q by omega) with h | h
      · have : t.s.rw * q ≤ 0 := Int.mul_nonpos_of_nonneg_of_nonpos (by omega) (by omega)
        omega
      · exact h
    have hdiv : (t.args.length : Int) / t.s.rw = q := by rw [hq]; exact Int.mul_ediv_cancel_left _ (by omega)
    have hq2 : q ≤ 1048576 := by
      have : 1 * q ≤ t.s.rw * q := Int.mul_le_mul_of_nonneg_right h1 (by omega)
      omega
    refine ⟨_, tout_7 (wd := q) h1 ?_ hq1 (os := fun i => (hk i).choose) (fun i h => (hk i).choose_spec h) hop⟩
    rw [hdiv]
    unfold wrap64; omega
  | @one t u hu hop _ ih =>
    intro hx
    have hm : u ∈ t.args := List.mem_of_getElem? hu
    obtain ⟨o, ho⟩ := ih (kid_of hx hm)
    obtain ⟨v, cV⟩ := plevel_call u.s.op
    rcases hop with h | h | h
    · obtain ⟨sg, hsg, cS⟩ := sign_call 9 (by decide) (by decide)
      exact ⟨_, tout_9 hu ho cV hsg cS h⟩
    · obtain ⟨sg, hsg, cS⟩ := sign_call 10 (by decide) (by decide)
      exact ⟨_, tout_10 hu ho cV hsg cS h⟩
    · exact ⟨_, tout_11 hu ho cV h⟩
  | @two t u v hu hv h1 h2 _ _ ihu ihv =>
    intro hx
    obtain ⟨o0, ho0⟩ := ihu (kid_of hx (List.mem_of_getElem? hu))
    obtain ⟨o1, ho1⟩ := ihv (kid_of hx (List.mem_of_getElem? hv))
    obtain ⟨v0, cV0⟩ := plevel_call u.s.op
    obtain ⟨v1, cV1⟩ := plevel_call v.s.op
    obtain ⟨vo, cVo⟩ := plevel_call t.s.op
    obtain ⟨sg, hsg, cS⟩ := sign_call t.s.op (by omega) h2
    exact ⟨_, tout_two hu hv ho0 ho1 cV0 cV1 cVo hsg cS h1 rfl⟩
open Go Go.RowKit
set_option maxRecDepth 100000
theorem cells5 : Tryz.prog.cellsOf 5 = 1 := by kernel_rfl
theorem mixed_orders : Tryz.prog.follows Departure.mixedOrders = true := by kernel_rfl
theorem str_call (B b : Nat) (l : List UInt8) (w : World) (h : WrIs B b l w) (hBw : B ≤ w.heap.size) :
    Calls Tryz.prog 39 #[.pointer (some ⟨b, 0, none⟩)] w fun e w' => e = .returned (.string ⟨l.toArray⟩) ∧ Below B w w' := by
  obtain ⟨p, hB, v, hbk, hown, hne⟩ : ∃ p, Lib.BuilderAtF 102 5 B b p (Lib.byteCells l) w := by
    rcases h with h | h
    · exact ⟨_, h⟩
    · exact ⟨_, h⟩
  rw [Lib.byteCells_length] at hown
  have hlt := lt_of_some hbk
  have mixed := mixed_orders
  by_cases hl0 : l = []
  · subst hl0
    have hUS : ∀ (W : World) (q : Option Addr), (Builtin.unsafeString_ #[152, 3] 9 #[.pointer q, .int .i64 0]).run Tryz.prog W = .ok (.string .empty) W := fun W q => Lib.run_unsafeString_none W 152 3 9 q
    rcases hown.2 with ⟨rfl, _⟩ | ⟨g, cap, cur, fz, rfl, hbg, hg, _, _, _, _, _⟩
    · have c1 : w.drew.cell? ⟨b, 1, none⟩ = some (.slice none 0 0) := by
        have : w.drew.heap[b]? = some (.cells #[p, .slice none 0 0] 102 (0, 0)) := hbk
        rw [Lib.cell_of_heap this]; rfl
      have hSD : (Builtin.unsafeSliceData_ #[98] 152 #[.slice none 0 0]).run Tryz.prog w.drew = .ok (.pointer none) w.drew := rfl
      clear h hown
      go_enter Tryz.func39, Tryz.ntmps39
      go_wp2
      go_region_o
      all_goals (go_wp2; go_ret; exact ⟨rfl, Below.drew (Below.refl B w)⟩)
    · have c0 : w.cell? ⟨b, 1, none⟩ = some (.slice (some ⟨g, 0, none⟩) 0 cap) := by
        rw [Lib.cell_of_heap hbk]; rfl
      by_cases hc0 : cap = 0
      · subst hc0
        have c1 : w.drew.cell? ⟨b, 1, none⟩ = some (.slice (some ⟨g, 0, none⟩) 0 0) := c0
        have hSD : (Builtin.unsafeSliceData_ #[98] 152 #[.slice (some ⟨g, 0, none⟩) 0 0]).run Tryz.prog w.drew = .ok (.pointer (some ⟨w.drew.heap.size, 0, none⟩)) (w.drew.alloc (.view ⟨g, 0, none⟩ 5)) :=
          Lib.run_unsafeSliceData_zero w.drew _ _ 5 Tryz.underlying152 ⟨g, 0, none⟩ 0 (5, cur.size) (by have hg' : w.drew.heap[g]? = some (.cells cur 5 fz) := hg; simp [World.shape?, hg'])
        have c2 : (w.drew.alloc (.view ⟨g, 0, none⟩ 5)).cell? ⟨b, 1, none⟩ = some (.slice (some ⟨g, 0, none⟩) 0 0) := by
          have : (w.drew.alloc (.view ⟨g, 0, none⟩ 5)).heap[b]? = _ := (Lib.alloc_old w.drew _ b hlt).trans hbk
          rw [Lib.cell_of_heap this]; rfl
        have c3 : (w.alloc (.view ⟨g, 0, none⟩ 5)).drew.cell? ⟨b, 1, none⟩ = some (.slice (some ⟨g, 0, none⟩) 0 0) := c2
        clear h hown
        go_enter Tryz.func39, Tryz.ntmps39
        go_wp2
        go_region_o
        all_goals (go_wp2; go_ret; exact ⟨rfl, (Below.drew (Below.refl B w)).alloc hBw _⟩)
      · have c1 : w.drew.cell? ⟨b, 1, none⟩ = some (.slice (some ⟨g, 0, none⟩) 0 cap) := c0
        have hSD : (Builtin.unsafeSliceData_ #[98] 152 #[.slice (some ⟨g, 0, none⟩) 0 cap]).run Tryz.prog w.drew = .ok (.pointer (some ⟨g, 0, none⟩)) w.drew :=
          Lib.run_unsafeSliceData_row _ _ _ _ _ _ hc0
        clear h hown hc0
        go_enter Tryz.func39, Tryz.ntmps39
        go_wp2
        go_region_o
        all_goals (go_wp2; go_ret; exact ⟨rfl, Below.drew (Below.refl B w)⟩)
  · have hl1 : l.length ≠ 0 := by simpa using hl0
    obtain ⟨g, cap, cur, fz, rfl, hbg, hg, hfz, hnc, hcm, hcs, htake⟩ : ∃ g cap cur fz, v = .slice (some ⟨g, 0, none⟩) l.length cap ∧ B ≤ g ∧ w.heap[g]? = some (.cells cur 5 fz) ∧ fz.2 ≤ l.length * 1 ∧ l.length ≤ cap ∧ cap ≤ maxLen ∧ cur.size = cap * 1 ∧ cur.toList.take (l.length * 1) = Lib.byteCells l := by
      rcases hown.2 with ⟨_, hz⟩ | ⟨g, cap, cur, fz, hv, r⟩
      · exact absurd hz hl1
      · exact ⟨g, cap, cur, fz, hv, r⟩
    have c1 : w.drew.cell? ⟨b, 1, none⟩ = some (.slice (some ⟨g, 0, none⟩) l.length cap) := by
      have : w.drew.heap[b]? = some (.cells #[p, .slice (some ⟨g, 0, none⟩) l.length cap] 102 (0, 0)) := hbk
      rw [Lib.cell_of_heap this]; rfl
    have hSD : (Builtin.unsafeSliceData_ #[98] 152 #[.slice (some ⟨g, 0, none⟩) l.length cap]).run Tryz.prog w.drew = .ok (.pointer (some ⟨g, 0, none⟩)) w.drew :=
      Lib.run_unsafeSliceData_row _ _ _ _ _ _ (by omega)
    have hUS : (Builtin.unsafeString_ #[152, 3] 9 #[.pointer (some ⟨g, 0, none⟩), .int .i64 l.length]).run Tryz.prog w.drew = .ok (.string ⟨l.toArray⟩) (w.drew.freeze ⟨g, 0, none⟩ l.length) := by
      refine Lib.run_unsafeString_row w.drew 152 3 9 5 Tryz.underlying152 cells5 g cur.size (by have hg' : w.drew.heap[g]? = some (.cells cur 5 fz) := hg; simp [World.shape?, hg']) l hl0 (by omega) (by unfold maxLen at hcm; omega) ?_
      intro j x hx
      have := hown.cells (g := g) rfl j (.int .u8 x.toNat) (by simp [Lib.byteCells, hx])
      exact this
    clear h hown htake
    go_enter Tryz.func39, Tryz.ntmps39
    go_wp2
    go_region_o
    all_goals (go_wp2; go_ret; exact ⟨rfl, Lib.below_freeze (Below.drew (Below.refl B w)) (p := ⟨g, 0, none⟩) hbg _⟩)
theorem catch_idle (p q : Addr) (w : World) :
    CallsD Tryz.prog 35 #[.pointer (some p), .pointer (some q)] .returning w fun e u' w' => e = .returned (.tuple #[]) ∧ u' = .returning ∧ w' = w := by
  refine callsD_of_wpS Tryz.func35 rfl fun c₀ cs hu => ?_
  apply wpS_seq
  apply wpS_region
  simp [wpOpsS, go_sem, recoverD, hu, Tryz.ntmps35, Exit.thenS]
  apply wpS_seq
  apply wpS_region
  simp [wpOpsS, go_sem, Exit.thenS]
  refine wpS_cond (t := false) (by simp [Act.eval, Array.replicate]) ?_
  simp only [Bool.false_eq_true, if_false]
  refine wpS_of_wp (wp_skip ?_)
  cases c₀
  simp_all [bodyPostS, results, Tryz.results35]
theorem catch_long (i j : Nat) (x : ByteArray) (y : Int) (older : List PanicEntry) (w : World) (hi : w.heap[i]? = some (.cells #[.string x] 9 (0, 0))) (hj : w.heap[j]? = some (.cells #[.int .i64 y] 31 (0, 0))) (hij : i ≠ j) :
    CallsD Tryz.prog 35 #[.pointer (some ⟨i, 0, none⟩), .pointer (some ⟨j, 0, none⟩)] (.panicking ({ v := refusedV, recovered := false } :: older)) w fun e u' w' =>
      e = .returned (.tuple #[]) ∧ u' = .panicking ({ v := refusedV, recovered := true } :: older) ∧ w'.cell? ⟨i, 0, none⟩ = some (.string ⟨#[]⟩) ∧ w'.cell? ⟨j, 0, none⟩ = some (.int .i64 3) ∧ ∀ B, B ≤ i → B ≤ j → B ≤ w.heap.size → Below B w w' := by
  refine callsD_of_wpS Tryz.func35 rfl fun c₀ cs hu => ?_
  apply wpS_seq
  apply wpS_region
  simp [wpOpsS, go_sem, recoverD, hu, Tryz.ntmps35, Exit.thenS, refusedV]
  apply wpS_seq
  apply wpS_region
  simp [wpOpsS, go_sem, Exit.thenS]
  refine wpS_cond (t := true) (by simp [Act.eval, Array.replicate]) ?_
  simp only [if_true]
  refine wpS_of_wp ?_
  have hta : ∀ w, (Instr.typeAssert (.iface 94 (.agg #[])) 20 94 true).run Tryz.prog w = .ok (.tuple #[.agg #[], .bool true]) w := fun w => by
    first | rfl | simp [Instr.typeAssert, run_underlying Tryz.underlying94]
  go_upto_region 3 with fail
  have hii := lt_of_some hi
  have hjj := lt_of_some hj
  have hc1 : (w.alloc (.cells #[] 94)).heap[i]? = some (.cells #[.string x] 9 (0, 0)) := by rw [heap_alloc_old _ _ hii]; exact hi
  have hc2 : (w.alloc (.cells #[] 94)).heap[j]? = some (.cells #[.int .i64 y] 31 (0, 0)) := by rw [heap_alloc_old _ _ hjj]; exact hj
  have hbw : ∀ B, B ≤ w.heap.size → Below B w (w.alloc (.cells #[] 94)) := fun B hB => (Below.refl _ _).alloc hB _
  generalize World.alloc w _ = W1 at hc1 hc2 hbw ⊢
  have a1 : W1.cell? ⟨i, 0, none⟩ = some (.string x) := by rw [Lib.cell_of_heap hc1]; rfl
  have z1 : W1.frozen? ⟨i, 0, none⟩ = false := Lib.frozen_of_heap hc1 0
  have a2 : W1.cell? ⟨j, 0, none⟩ = some (.int .i64 y) := by rw [Lib.cell_of_heap hc2]; rfl
  have z2 : W1.frozen? ⟨j, 0, none⟩ = false := Lib.frozen_of_heap hc2 0
  have hji : j ≠ i := fun h => hij h.symm
  have hc3 : (W1.setCell ⟨i, 0, none⟩ (.string ⟨#[]⟩)).heap[j]? = some (.cells #[.int .i64 y] 31 (0, 0)) := by
    rw [set_other W1 ⟨i, 0, none⟩ (.string ⟨#[]⟩) hji]; exact hc2
  have a3 : (W1.setCell ⟨i, 0, none⟩ (.string ⟨#[]⟩)).cell? ⟨j, 0, none⟩ = some (.int .i64 y) := by rw [Lib.cell_of_heap hc3]; rfl
  have z3 : (W1.setCell ⟨i, 0, none⟩ (.string ⟨#[]⟩)).frozen? ⟨j, 0, none⟩ = false := Lib.frozen_of_heap hc3 0
  have e1 : (W1.setCell ⟨i, 0, none⟩ (.string ⟨#[]⟩)).heap[i]? = some (.cells #[.string ⟨#[]⟩] 9 (0, 0)) := set_block (i := 0) hc1 (.string ⟨#[]⟩)
  go_wp2
  have e2 : ((W1.setCell ⟨i, 0, none⟩ (.string ⟨#[]⟩)).setCell ⟨j, 0, none⟩ (.int .i64 3)).heap[j]? = some (.cells #[.int .i64 3] 31 (0, 0)) := set_block (i := 0) hc3 (.int .i64 3)
  have e3 : ((W1.setCell ⟨i, 0, none⟩ (.string ⟨#[]⟩)).setCell ⟨j, 0, none⟩ (.int .i64 3)).heap[i]? = some (.cells #[.string ⟨#[]⟩] 9 (0, 0)) := by
    rw [set_other _ ⟨j, 0, none⟩ (.int .i64 3) hij]; exact e1
  refine ⟨rfl, _, rfl, .tuple #[], ?_, rfl, rfl, ?_, ?_, fun B b1 b2 b3 => ?_⟩
  · simp [results, Tryz.results35]
  · rw [Lib.cell_of_heap e3]; rfl
  · rw [Lib.cell_of_heap e2]; rfl
  · exact ((hbw B b3).setCell (p := ⟨i, 0, none⟩) b1 _).setCell (p := ⟨j, 0, none⟩) b2 _
open Go Go.RowKit
set_option maxRecDepth 100000
theorem check36_call {W : World} (hg : Ck.Consts W) (hT : Ck.Tabs W) {x : RV} {t : TermD} (hx : x.Is W t) (hwt : t.wt ≤ 16777216) (w : World) (hw : Ck.Later W w) :
    Calls Tryz.prog 36 #[.agg (x.s.arr (.slice x.p x.n x.m))] w fun e w' => e = .returned (.bool (fitsF W t.wt t 1)) ∧ Below w.heap.size w w' := by
  have cF := fun w hw => fits_all hg hT t.wt hwt x t hx (Nat.le_refl _) 1 (by decide) (by decide) w hw
  obtain ⟨s, p, n, m⟩ := x
  simp only at cF ⊢
  generalize fitsF W t.wt t 1 = b at cF ⊢
  have HcF := Lib.hid cF
  have hA1 := Scal.arr_size s (.slice p n m)
  clear cF hx hg hT
  go_enter Tryz.func36, Tryz.ntmps36
  go_upto_region 1 with fail
  generalize hW1 : World.alloc w _ = W1
  have hbc : Below w.heap.size w W1 := by rw [← hW1]; exact (Below.refl _ _).alloc (Nat.le_refl _) _
  have hC : W1.heap[w.heap.size]? = some (.cells (s.row (.slice p n m)).toArray 29 (0, 0)) := by rw [← hW1]; exact heap_alloc_new _ _
  clear hW1
  have Hlc := Lib.hid (later_below hw hbc)
  have HC := Lib.hid hC
  have Hbc := Lib.hid hbc
  clear hw hC hbc
  go_wp2_with (first
    | (go_at_call 74; refine (HcF.out _ Hlc.out).mono ?_; rintro e w5 ⟨rfl, hb5⟩)
    | (refine wpList_load_row rfl 29 _ rfl w.heap.size rfl 29 (s.arr (.slice p n m)) (0, 0) _ HC.out Tryz.underlying29 rfl size29 ?_))
  go_ret
  exact ⟨rfl, Hbc.out.trans (hb5.mono Hbc.out.size)⟩
theorem fresh_wr (w : World) : WrIs w.heap.size w.heap.size [] (w.alloc (.cells #[.pointer none, .slice none 0 0] 102)) := by
  rcases Lib.fresh_isBuilder 102 5 w with h | h
  · exact .inl (Lib.BuilderAtF.of h)
  · exact .inr (Lib.BuilderAtF.of h)
theorem heap_alloc3_new (w : World) (a b o : Obj) : (((w.alloc a).alloc b).alloc o).heap[w.heap.size + 2]? = some o := by
  have := heap_alloc_new ((w.alloc a).alloc b) o
  simpa using this
theorem cell_one {w : World} {i : Nat} {v : Value} {t : TypeId} (h : w.heap[i]? = some (.cells #[v] t (0, 0))) : w.cell? ⟨i, 0, none⟩ = some v ∧ w.frozen? ⟨i, 0, none⟩ = false := by
  refine ⟨?_, ?_⟩
  · rw [Lib.cell_of_heap h]; rfl
  · exact Lib.frozen_of_heap h 0
theorem two_vars {w : World} {i j : Nat} {x : ByteArray} {y : Int} (h1 : w.heap[i]? = some (.cells #[.string x] 9 (0, 0))) (h2 : w.heap[j]? = some (.cells #[.int .i64 y] 31 (0, 0))) (hij : i ≠ j) (u : ByteArray) :
    w.cell? ⟨i, 0, none⟩ = some (.string x) ∧ w.frozen? ⟨i, 0, none⟩ = false ∧ (w.setCell ⟨i, 0, none⟩ (.string u)).cell? ⟨j, 0, none⟩ = some (.int .i64 y) ∧ (w.setCell ⟨i, 0, none⟩ (.string u)).frozen? ⟨j, 0, none⟩ = false := by
  have h3 : (w.setCell ⟨i, 0, none⟩ (.string u)).heap[j]? = some (.cells #[.int .i64 y] 31 (0, 0)) := by
    rw [set_other w ⟨i, 0, none⟩ (.string u) (fun h => hij h.symm)]
    exact h2
  exact ⟨(cell_one h1).1, (cell_one h1).2, (cell_one h3).1, (cell_one h3).2⟩
theorem two_set {w : World} {i j : Nat} {x : ByteArray} {y : Int} (h1 : w.heap[i]? = some (.cells #[.string x] 9 (0, 0))) (h2 : w.heap[j]? = some (.cells #[.int .i64 y] 31 (0, 0))) (hij : i ≠ j) (u : ByteArray) (k : Int) :
    ((w.setCell ⟨i, 0, none⟩ (.string u)).setCell ⟨j, 0, none⟩ (.int .i64 k)).cell? ⟨i, 0, none⟩ = some (.string u) ∧ ((w.setCell ⟨i, 0, none⟩ (.string u)).setCell ⟨j, 0, none⟩ (.int .i64 k)).cell? ⟨j, 0, none⟩ = some (.int .i64 k) ∧
      ∀ B, B ≤ i → B ≤ j → Below B w ((w.setCell ⟨i, 0, none⟩ (.string u)).setCell ⟨j, 0, none⟩ (.int .i64 k)) := by
  have h3 : (w.setCell ⟨i, 0, none⟩ (.string u)).heap[j]? = some (.cells #[.int .i64 y] 31 (0, 0)) := by
    rw [set_other w ⟨i, 0, none⟩ (.string u) (fun h => hij h.symm)]
    exact h2
  have h4 : (w.setCell ⟨i, 0, none⟩ (.string u)).heap[i]? = some (.cells #[.string u] 9 (0, 0)) := set_block (i := 0) h1 (.string u)
  have h5 : ((w.setCell ⟨i, 0, none⟩ (.string u)).setCell ⟨j, 0, none⟩ (.int .i64 k)).heap[j]? = some (.cells #[.int .i64 k] 31 (0, 0)) := set_block (i := 0) h3 (.int .i64 k)
  have h6 : ((w.setCell ⟨i, 0, none⟩ (.string u)).setCell ⟨j, 0, none⟩ (.int .i64 k)).heap[i]? = some (.cells #[.string u] 9 (0, 0)) := by
    rw [set_other _ ⟨j, 0, none⟩ (.int .i64 k) hij]
    exact h4
  exact ⟨(cell_one h6).1, (cell_one h5).1, fun B b1 b2 => ((Below.refl B w).setCell (p := ⟨i, 0, none⟩) b1 _).setCell (p := ⟨j, 0, none⟩) b2 _⟩
theorem written_bad {W : World} {s : Scal} {p : Option Addr} {n m : Nat} (cC : ∀ w, Ck.Later W w → Calls Tryz.prog 36 #[.agg (s.arr (.slice p n m))] w fun e w' => e = .returned (.bool false) ∧ Below w.heap.size w w') (w : World) (hw : Ck.Later W w) :
    Calls Tryz.prog 15 #[.agg (s.arr (.slice p n m)), .int .i64 8191] w fun e w' => e = .returned (.tuple #[.string ⟨#[]⟩, .int .i64 140]) ∧ Below w.heap.size w w' := by
    have hmf : ∀ (fn : Fn) (first cap : Array Value) (w : World), (Instr.makeFunc fn first cap).run Tryz.prog w = .ok (.func fn first cap) w := fun _ _ _ _ => rfl
    have HcC := Lib.hid cC
    have hA1 := Scal.arr_size s (.slice p n m)
    clear cC
    go_enter_defers Tryz.func15, Tryz.ntmps15
    go_upto_region 1 with fail
    generalize hW1 : World.alloc _ _ = W1
    have hbc : Below w.heap.size w W1 := by rw [← hW1]; exact (((Below.refl _ _).alloc (Nat.le_refl _) _).alloc (by simp) _).alloc (by simp <;> omega) _
    have hC0 : W1.heap[w.heap.size]? = some (.cells (s.row (.slice p n m)).toArray 29 (0, 0)) := by
      rw [← hW1, heap_alloc_old _ _ (by simp <;> omega), heap_alloc_old _ _ (by simp)]
      exact heap_alloc_new _ _
    have hC1 : W1.heap[w.heap.size + 1]? = some (.cells #[.string ⟨#[]⟩] 9 (0, 0)) := by
      rw [← hW1, heap_alloc_old _ _ (by simp)]
      exact heap_alloc2_new _ _ _
    have hC2 : W1.heap[w.heap.size + 1 + 1]? = some (.cells #[.int .i64 0] 31 (0, 0)) := by rw [← hW1]; exact heap_alloc3_new _ _ _ _
    clear hW1
    have hlt2 := lt_of_some hC2
    have hlt0 := lt_of_some hC0
    have hlt1 := lt_of_some hC1
    have Hl1 := Lib.hid (later_below hw hbc)
    have HC0 := Lib.hid hC0
    have HC1 := Lib.hid hC1
    have HC2 := Lib.hid hC2
    have Hbc := Lib.hid hbc
    have hij : w.heap.size + 1 ≠ w.heap.size + 1 + 1 := by omega
    clear hC0 hC1 hC2 hbc hw
    go_wp2_with (first
      | (go_at_call 36; refine (HcC.out _ Hl1.out).mono ?_; rintro e w5 ⟨rfl, hb5⟩; have G1 := Lib.hid ((hb5.block _ hlt1).trans HC1.out); have G2 := Lib.hid ((hb5.block _ hlt2).trans HC2.out); obtain ⟨c1, z1, c2, z2⟩ := two_vars G1.out G2.out hij ⟨#[]⟩)
      | (refine wpList_load_row rfl 29 _ rfl w.heap.size rfl 29 (s.arr (.slice p n m)) (0, 0) _ HC0.out Tryz.underlying29 rfl size29 ?_))
    refine leaves_cons (f := 35) (args := #[.pointer (some ⟨w.heap.size + 1, 0, none⟩), .pointer (some ⟨w.heap.size + 1 + 1, 0, none⟩)]) (by simp) (by simp [go_sem]) ?_
    refine (catch_idle _ _ _).mono ?_
    rintro e u' w'' ⟨rfl, rfl, rfl⟩
    obtain ⟨f1, f2, f3⟩ := two_set G1.out G2.out hij ⟨#[]⟩ 140
    simp [Leaves, settle, results, Tryz.results15, go_sem, f1, f2]
    exact Hbc.out.trans ((hb5.mono Hbc.out.size).trans (f3 _ (by omega) (by omega)))
theorem written_long {W : World} {s : Scal} {p : Option Addr} {n m : Nat} {o : List UInt8} (cC : ∀ w, Ck.Later W w → Calls Tryz.prog 36 #[.agg (s.arr (.slice p n m))] w fun e w' => e = .returned (.bool true) ∧ Below w.heap.size w w')
    (cO : ∀ (B b : Nat) (l : List UInt8) (w : World), W.heap.size ≤ B → B ≤ w.heap.size → WrIs B b l w → l.length ≤ 16384 → Ck.Later W w → Calls Tryz.prog 37 #[.pointer (some ⟨b, 0, none⟩), .agg (s.arr (.slice p n m))] w (WrPost B b l o w)) (ho : 16384 < o.length) (w : World) (hw : Ck.Later W w) :
    Calls Tryz.prog 15 #[.agg (s.arr (.slice p n m)), .int .i64 8191] w fun e w' => e = .returned (.tuple #[.string ⟨#[]⟩, .int .i64 3]) ∧ Below w.heap.size w w' := by
    have hmf : ∀ (fn : Fn) (first cap : Array Value) (w : World), (Instr.makeFunc fn first cap).run Tryz.prog w = .ok (.func fn first cap) w := fun _ _ _ _ => rfl
    have HcC := Lib.hid cC
    have HcO := Lib.hid cO
    have hA1 := Scal.arr_size s (.slice p n m)
    have hsW := hw.1
    clear cC cO
    go_enter_defers Tryz.func15, Tryz.ntmps15
    go_upto_region 1 with fail
    generalize hW1 : World.alloc _ _ = W1
    have hbc : Below w.heap.size w W1 := by rw [← hW1]; exact (((Below.refl _ _).alloc (Nat.le_refl _) _).alloc (by simp) _).alloc (by simp <;> omega) _
    have hC0 : W1.heap[w.heap.size]? = some (.cells (s.row (.slice p n m)).toArray 29 (0, 0)) := by
      rw [← hW1, heap_alloc_old _ _ (by simp <;> omega), heap_alloc_old _ _ (by simp)]
      exact heap_alloc_new _ _
    have hC1 : W1.heap[w.heap.size + 1]? = some (.cells #[.string ⟨#[]⟩] 9 (0, 0)) := by
      rw [← hW1, heap_alloc_old _ _ (by simp)]
      exact heap_alloc2_new _ _ _
    have hC2 : W1.heap[w.heap.size + 1 + 1]? = some (.cells #[.int .i64 0] 31 (0, 0)) := by rw [← hW1]; exact heap_alloc3_new _ _ _ _
    clear hW1
    have hlt2 := lt_of_some hC2
    have hlt0 := lt_of_some hC0
    have hlt1 := lt_of_some hC1
    have Hl1 := Lib.hid (later_below hw hbc)
    have HC0 := Lib.hid hC0
    have HC1 := Lib.hid hC1
    have HC2 := Lib.hid hC2
    have Hbc := Lib.hid hbc
    have hij : w.heap.size + 1 ≠ w.heap.size + 1 + 1 := by omega
    clear hC0 hC1 hC2 hbc hw
    go_upto_region 5 with (first
      | (go_at_call 36; refine (HcC.out _ Hl1.out).mono ?_; rintro e w5 ⟨rfl, hb5⟩; have G1 := Lib.hid ((hb5.block _ hlt1).trans HC1.out); have G2 := Lib.hid ((hb5.block _ hlt2).trans HC2.out); have G0 := Lib.hid ((hb5.block _ hlt0).trans HC0.out))
      | (refine wpList_load_row rfl 29 _ rfl w.heap.size rfl 29 (s.arr (.slice p n m)) (0, 0) _ HC0.out Tryz.underlying29 rfl size29 ?_))
    generalize hW2 : World.alloc w5 _ = W2
    have hb25 : Below w5.heap.size w5 W2 := by rw [← hW2]; exact (Below.refl _ _).alloc (Nat.le_refl _) _
    have hfw : WrIs w5.heap.size w5.heap.size [] W2 := by rw [← hW2]; exact fresh_wr w5
    clear hW2
    have h5s := hb5.size
    have hK0 := (hb25.block _ (Nat.lt_of_lt_of_le hlt0 h5s)).trans G0.out
    have hK1 := (hb25.block _ (Nat.lt_of_lt_of_le hlt1 h5s)).trans G1.out
    have hK2 := (hb25.block _ (Nat.lt_of_lt_of_le hlt2 h5s)).trans G2.out
    have hl2 : Ck.Later W W2 := later_below (later_below Hl1.out hb5) hb25
    have hbw2 : Below w.heap.size w W2 := Hbc.out.trans ((hb5.trans (hb25.mono h5s)).mono Hbc.out.size)
    have cO := HcO.out w5.heap.size w5.heap.size [] W2 (by have := Hl1.out.1; omega) hb25.size hfw (Nat.zero_le _) hl2
    have HO := Lib.hid cO
    have HK0 := Lib.hid hK0
    have HK1 := Lib.hid hK1
    have HK2 := Lib.hid hK2
    have Hbw2 := Lib.hid hbw2
    have hs5 := hb25.size
    clear hK0 hK1 hK2 hl2 hbw2 cO hb25 hfw hb5
    go_wp2_with (first
      | (go_at_call 37; refine HO.out.mono ?_; rintro e w6 (⟨a6, rfl, h6, hb6, hk6⟩ | ⟨a6, rfl, hb6⟩)
         · exact absurd a6 (by rw [List.length_nil]; omega))
      | (refine wpList_load_row rfl 29 _ rfl w.heap.size rfl 29 (s.arr (.slice p n m)) (0, 0) _ HK0.out Tryz.underlying29 rfl size29 ?_))
    refine leaves_cons (f := 35) (args := #[.pointer (some ⟨w.heap.size + 1, 0, none⟩), .pointer (some ⟨w.heap.size + 1 + 1, 0, none⟩)]) (by simp) (by simp [go_sem]) ?_
    refine (catch_long (w.heap.size + 1) (w.heap.size + 1 + 1) ⟨#[]⟩ 0 [] w6 ((hb6.block _ (by omega)).trans HK1.out) ((hb6.block _ (by omega)).trans HK2.out) hij).mono ?_
    rintro e u' w'' ⟨rfl, rfl, f1, f2, f3⟩
    simp [Leaves, settle, results, Tryz.results15, go_sem, f1, f2]
    have hs6 := hb6.size
    exact Hbw2.out.trans ((hb6.mono (by omega)).trans (f3 _ (by omega) (by omega) (by omega)))
theorem written_mid {W : World} {s : Scal} {p : Option Addr} {n m : Nat} {o : List UInt8} (cC : ∀ w, Ck.Later W w → Calls Tryz.prog 36 #[.agg (s.arr (.slice p n m))] w fun e w' => e = .returned (.bool true) ∧ Below w.heap.size w w')
    (cO : ∀ (B b : Nat) (l : List UInt8) (w : World), W.heap.size ≤ B → B ≤ w.heap.size → WrIs B b l w → l.length ≤ 16384 → Ck.Later W w → Calls Tryz.prog 37 #[.pointer (some ⟨b, 0, none⟩), .agg (s.arr (.slice p n m))] w (WrPost B b l o w)) (ho : 8191 < o.length ∧ o.length ≤ 16384) (w : World) (hw : Ck.Later W w) :
    Calls Tryz.prog 15 #[.agg (s.arr (.slice p n m)), .int .i64 8191] w fun e w' => e = .returned (.tuple #[.string ⟨#[]⟩, .int .i64 3]) ∧ Below w.heap.size w w' := by
    have hmf : ∀ (fn : Fn) (first cap : Array Value) (w : World), (Instr.makeFunc fn first cap).run Tryz.prog w = .ok (.func fn first cap) w := fun _ _ _ _ => rfl
    have HcC := Lib.hid cC
    have HcO := Lib.hid cO
    have hA1 := Scal.arr_size s (.slice p n m)
    have hsW := hw.1
    clear cC cO
    go_enter_defers Tryz.func15, Tryz.ntmps15
    go_upto_region 1 with fail
    generalize hW1 : World.alloc _ _ = W1
    have hbc : Below w.heap.size w W1 := by rw [← hW1]; exact (((Below.refl _ _).alloc (Nat.le_refl _) _).alloc (by simp) _).alloc (by simp <;> omega) _
    have hC0 : W1.heap[w.heap.size]? = some (.cells (s.row (.slice p n m)).toArray 29 (0, 0)) := by
      rw [← hW1, heap_alloc_old _ _ (by simp <;> omega), heap_alloc_old _ _ (by simp)]
      exact heap_alloc_new _ _
    have hC1 : W1.heap[w.heap.size + 1]? = some (.cells #[.string ⟨#[]⟩] 9 (0, 0)) := by
      rw [← hW1, heap_alloc_old _ _ (by simp)]
      exact heap_alloc2_new _ _ _
    have hC2 : W1.heap[w.heap.size + 1 + 1]? = some (.cells #[.int .i64 0] 31 (0, 0)) := by rw [← hW1]; exact heap_alloc3_new _ _ _ _
    clear hW1
    have hlt2 := lt_of_some hC2
    have hlt0 := lt_of_some hC0
    have hlt1 := lt_of_some hC1
    have Hl1 := Lib.hid (later_below hw hbc)
    have HC0 := Lib.hid hC0
    have HC1 := Lib.hid hC1
    have HC2 := Lib.hid hC2
    have Hbc := Lib.hid hbc
    have hij : w.heap.size + 1 ≠ w.heap.size + 1 + 1 := by omega
    clear hC0 hC1 hC2 hbc hw
    go_upto_region 5 with (first
      | (go_at_call 36; refine (HcC.out _ Hl1.out).mono ?_; rintro e w5 ⟨rfl, hb5⟩; have G1 := Lib.hid ((hb5.block _ hlt1).trans HC1.out); have G2 := Lib.hid ((hb5.block _ hlt2).trans HC2.out); have G0 := Lib.hid ((hb5.block _ hlt0).trans HC0.out))
      | (refine wpList_load_row rfl 29 _ rfl w.heap.size rfl 29 (s.arr (.slice p n m)) (0, 0) _ HC0.out Tryz.underlying29 rfl size29 ?_))
    generalize hW2 : World.alloc w5 _ = W2
    have hb25 : Below w5.heap.size w5 W2 := by rw [← hW2]; exact (Below.refl _ _).alloc (Nat.le_refl _) _
    have hfw : WrIs w5.heap.size w5.heap.size [] W2 := by rw [← hW2]; exact fresh_wr w5
    clear hW2
    have h5s := hb5.size
    have hK0 := (hb25.block _ (Nat.lt_of_lt_of_le hlt0 h5s)).trans G0.out
    have hK1 := (hb25.block _ (Nat.lt_of_lt_of_le hlt1 h5s)).trans G1.out
    have hK2 := (hb25.block _ (Nat.lt_of_lt_of_le hlt2 h5s)).trans G2.out
    have hl2 : Ck.Later W W2 := later_below (later_below Hl1.out hb5) hb25
    have hbw2 : Below w.heap.size w W2 := Hbc.out.trans ((hb5.trans (hb25.mono h5s)).mono Hbc.out.size)
    have cO := HcO.out w5.heap.size w5.heap.size [] W2 (by have := Hl1.out.1; omega) hb25.size hfw (Nat.zero_le _) hl2
    have HO := Lib.hid cO
    have HK0 := Lib.hid hK0
    have HK1 := Lib.hid hK1
    have HK2 := Lib.hid hK2
    have Hbw2 := Lib.hid hbw2
    have hs5 := hb25.size
    clear hK0 hK1 hK2 hl2 hbw2 cO hb25 hfw hb5
    have hz : (8191 : Int) < (o.length : Int) := by omega
    go_wp2_with (first
      | (go_at_call 38; refine (len_call w5.heap.size w5.heap.size (Lib.byteCells o) w6 h6).mono ?_; rintro e w7 ⟨rfl, hw7⟩; rw [hw7, Lib.byteCells_length]; clear hw7
         have g1 := (hb6.block _ (by omega)).trans HK1.out
         have g2 := (hb6.block _ (by omega)).trans HK2.out
         obtain ⟨c1, z1, c2, z2⟩ := two_vars g1 g2 hij ⟨#[]⟩
         have G3 := Lib.hid g1; have G4 := Lib.hid g2; clear g1 g2)
      | (go_at_call 37; refine HO.out.mono ?_; rintro e w6 (⟨a6, rfl, h6, hb6, hk6⟩ | ⟨a6, rfl, hb6⟩)
         rotate_left
         · exact absurd a6 (by rw [List.length_nil]; omega))
      | (refine wpList_load_row rfl 29 _ rfl w.heap.size rfl 29 (s.arr (.slice p n m)) (0, 0) _ HK0.out Tryz.underlying29 rfl size29 ?_))
    refine leaves_cons (f := 35) (args := #[.pointer (some ⟨w.heap.size + 1, 0, none⟩), .pointer (some ⟨w.heap.size + 1 + 1, 0, none⟩)]) (by simp) (by simp [go_sem]) ?_
    refine (catch_idle _ _ _).mono ?_
    rintro e u' w'' ⟨rfl, rfl, rfl⟩
    obtain ⟨f1, f2, f3⟩ := two_set G3.out G4.out hij ⟨#[]⟩ 3
    simp [Leaves, settle, results, Tryz.results15, go_sem, f1, f2]
    have hs6 := hb6.size
    exact Hbw2.out.trans ((hb6.mono (by omega)).trans ((f3 _ (by omega) (by omega))))
theorem written_short {W : World} {s : Scal} {p : Option Addr} {n m : Nat} {o : List UInt8} (cC : ∀ w, Ck.Later W w → Calls Tryz.prog 36 #[.agg (s.arr (.slice p n m))] w fun e w' => e = .returned (.bool true) ∧ Below w.heap.size w w')
    (cO : ∀ (B b : Nat) (l : List UInt8) (w : World), W.heap.size ≤ B → B ≤ w.heap.size → WrIs B b l w → l.length ≤ 16384 → Ck.Later W w → Calls Tryz.prog 37 #[.pointer (some ⟨b, 0, none⟩), .agg (s.arr (.slice p n m))] w (WrPost B b l o w)) (ho : o.length ≤ 8191) (w : World) (hw : Ck.Later W w) :
    Calls Tryz.prog 15 #[.agg (s.arr (.slice p n m)), .int .i64 8191] w fun e w' => e = .returned (.tuple #[.string ⟨o.toArray⟩, .int .i64 0]) ∧ Below w.heap.size w w' := by
    have hmf : ∀ (fn : Fn) (first cap : Array Value) (w : World), (Instr.makeFunc fn first cap).run Tryz.prog w = .ok (.func fn first cap) w := fun _ _ _ _ => rfl
    have HcC := Lib.hid cC
    have HcO := Lib.hid cO
    have hA1 := Scal.arr_size s (.slice p n m)
    have hsW := hw.1
    clear cC cO
    go_enter_defers Tryz.func15, Tryz.ntmps15
    go_upto_region 1 with fail
    generalize hW1 : World.alloc _ _ = W1
    have hbc : Below w.heap.size w W1 := by rw [← hW1]; exact (((Below.refl _ _).alloc (Nat.le_refl _) _).alloc (by simp) _).alloc (by simp <;> omega) _
    have hC0 : W1.heap[w.heap.size]? = some (.cells (s.row (.slice p n m)).toArray 29 (0, 0)) := by
      rw [← hW1, heap_alloc_old _ _ (by simp <;> omega), heap_alloc_old _ _ (by simp)]
      exact heap_alloc_new _ _
    have hC1 : W1.heap[w.heap.size + 1]? = some (.cells #[.string ⟨#[]⟩] 9 (0, 0)) := by
      rw [← hW1, heap_alloc_old _ _ (by simp)]
      exact heap_alloc2_new _ _ _
    have hC2 : W1.heap[w.heap.size + 1 + 1]? = some (.cells #[.int .i64 0] 31 (0, 0)) := by rw [← hW1]; exact heap_alloc3_new _ _ _ _
    clear hW1
    have hlt2 := lt_of_some hC2
    have hlt0 := lt_of_some hC0
    have hlt1 := lt_of_some hC1
    have Hl1 := Lib.hid (later_below hw hbc)
    have HC0 := Lib.hid hC0
    have HC1 := Lib.hid hC1
    have HC2 := Lib.hid hC2
    have Hbc := Lib.hid hbc
    have hij : w.heap.size + 1 ≠ w.heap.size + 1 + 1 := by omega
    clear hC0 hC1 hC2 hbc hw
    go_upto_region 5 with (first
      | (go_at_call 36; refine (HcC.out _ Hl1.out).mono ?_; rintro e w5 ⟨rfl, hb5⟩; have G1 := Lib.hid ((hb5.block _ hlt1).trans HC1.out); have G2 := Lib.hid ((hb5.block _ hlt2).trans HC2.out); have G0 := Lib.hid ((hb5.block _ hlt0).trans HC0.out))
      | (refine wpList_load_row rfl 29 _ rfl w.heap.size rfl 29 (s.arr (.slice p n m)) (0, 0) _ HC0.out Tryz.underlying29 rfl size29 ?_))
    generalize hW2 : World.alloc w5 _ = W2
    have hb25 : Below w5.heap.size w5 W2 := by rw [← hW2]; exact (Below.refl _ _).alloc (Nat.le_refl _) _
    have hfw : WrIs w5.heap.size w5.heap.size [] W2 := by rw [← hW2]; exact fresh_wr w5
    clear hW2
    have h5s := hb5.size
    have hK0 := (hb25.block _ (Nat.lt_of_lt_of_le hlt0 h5s)).trans G0.out
    have hK1 := (hb25.block _ (Nat.lt_of_lt_of_le hlt1 h5s)).trans G1.out
    have hK2 := (hb25.block _ (Nat.lt_of_lt_of_le hlt2 h5s)).trans G2.out
    have hl2 : Ck.Later W W2 := later_below (later_below Hl1.out hb5) hb25
    have hbw2 : Below w.heap.size w W2 := Hbc.out.trans ((hb5.trans (hb25.mono h5s)).mono Hbc.out.size)
    have cO := HcO.out w5.heap.size w5.heap.size [] W2 (by have := Hl1.out.1; omega) hb25.size hfw (Nat.zero_le _) hl2
    have HO := Lib.hid cO
    have HK0 := Lib.hid hK0
    have HK1 := Lib.hid hK1
    have HK2 := Lib.hid hK2
    have Hbw2 := Lib.hid hbw2
    have hs5 := hb25.size
    clear hK0 hK1 hK2 hl2 hbw2 cO hb25 hfw hb5
    have hz : ((8191 : Int) < (o.length : Int)) = False := eq_false (by omega)
    go_wp2_with (first
      | (go_at_call 39; refine (str_call w5.heap.size w5.heap.size o w6 h6 (by have := hb6.size; omega)).mono ?_; rintro e w8 ⟨rfl, hb8⟩
         have g1 := (hb8.block _ (by omega)).trans ((hb6.block _ (by omega)).trans HK1.out)
         have g2 := (hb8.block _ (by omega)).trans ((hb6.block _ (by omega)).trans HK2.out)
         obtain ⟨c1, z1, c2, z2⟩ := two_vars g1 g2 hij ⟨o.toArray⟩
         have G3 := Lib.hid g1; have G4 := Lib.hid g2; clear g1 g2)
      | (go_at_call 38; refine (len_call w5.heap.size w5.heap.size (Lib.byteCells o) w6 h6).mono ?_; rintro e w7 ⟨rfl, hw7⟩; rw [hw7, Lib.byteCells_length]; clear hw7)
      | (go_at_call 37; refine HO.out.mono ?_; rintro e w6 (⟨a6, rfl, h6, hb6, hk6⟩ | ⟨a6, rfl, hb6⟩)
         rotate_left
         · exact absurd a6 (by rw [List.length_nil]; omega))
      | (refine wpList_load_row rfl 29 _ rfl w.heap.size rfl 29 (s.arr (.slice p n m)) (0, 0) _ HK0.out Tryz.underlying29 rfl size29 ?_))
    refine leaves_cons (f := 35) (args := #[.pointer (some ⟨w.heap.size + 1, 0, none⟩), .pointer (some ⟨w.heap.size + 1 + 1, 0, none⟩)]) (by simp) (by simp [go_sem]) ?_
    refine (catch_idle _ _ _).mono ?_
    rintro e u' w'' ⟨rfl, rfl, rfl⟩
    obtain ⟨f1, f2, f3⟩ := two_set G3.out G4.out hij ⟨o.toArray⟩ 0
    simp [Leaves, settle, results, Tryz.results15, go_sem, f1, f2]
    have hs6 := hb6.size
    exact Hbw2.out.trans ((hb6.mono (by omega)).trans ((hb8.mono (by omega)).trans (f3 _ (by omega) (by omega))))
theorem written_call {W : World} {H L : Nat → Nat} (hg : Ck.Consts W) (hT : Ck.Tabs W) (hn : NumW W H L) (hTab : TabOk H L) {x : RV} {t : TermD} (hx : x.Is W t) (hwt : t.wt ≤ 16777216) :
    ∃ (tx : ByteArray) (k : Int), tx.size ≤ 8191 ∧ ∀ w, Ck.Later W w → Calls Tryz.prog 15 #[.agg (x.s.arr (.slice x.p x.n x.m)), .int .i64 8191] w fun e w' => e = .returned (.tuple #[.string tx, .int .i64 k]) ∧ Below w.heap.size w w' := by
  have cC := fun w hw => check36_call hg hT hx hwt w hw
  cases hb : fitsF W t.wt t 1
  · rw [hb] at cC
    exact ⟨⟨#[]⟩, 140, by decide, fun w hw => written_bad cC w hw⟩
  · rw [hb] at cC
    obtain ⟨o, hO⟩ := pr_out hg hT hn hTab (fits_pr hg hT _ x t hx _ hb) ⟨x, hx⟩
    have cO := hO x hx
    rcases (show o.length ≤ 8191 ∨ (8191 < o.length ∧ o.length ≤ 16384) ∨ 16384 < o.length by omega) with h | h | h
    · exact ⟨⟨o.toArray⟩, 0, (by show o.toArray.size ≤ 8191; simpa using h), fun w hw => written_short cC cO h w hw⟩
    · exact ⟨⟨#[]⟩, 3, by decide, fun w hw => written_mid cC cO h w hw⟩
    · exact ⟨⟨#[]⟩, 3, by decide, fun w hw => written_long cC cO h w hw⟩
end Go.Proofs.YtkeibmkcgnppeaaGreatDoor

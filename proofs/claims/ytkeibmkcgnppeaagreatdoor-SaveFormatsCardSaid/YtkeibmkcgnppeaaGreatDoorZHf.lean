/- What a world holds as it is laid; the row of SaveFormats lifted. -/
import Derived.Test.YtkeibmkcgnppeaaGreatDoorZHe
import Derived.Test.YtkeibmkcgnppeaaGreatDoorZCc
import Derived.Lib.LaidU8
import Derived.Lib.LaidTab
import Derived.Shelf.Vars
import Derived.Test.YtkeibmkcgnppeaaGreatDoorTie
import Derived.Test.YtkeibmkcgnppeaaGreatDoorCards
import Derived.Test.YtkeibmkcgnppeaaGreatDoorZRd
import Derived.ProofKit
import Derived.OpenShut
import Derived.LaidMore
import Derived.Lay
import Derived.SevenTiedAt
import Derived.Stop.Joined
import Derived.HandedShaped
namespace Go.Proofs.YtkeibmkcgnppeaaGreatDoor
open Go Go.ChangeShapes Go.WideShapes Go.ChangeAt Go.RowKit
set_option maxRecDepth 100000
def tabH (i : Nat) : Nat := (Pinned.pow10Rows.getD i (0, 0)).1
def tabL (i : Nat) : Nat := (Pinned.pow10Rows.getD i (0, 0)).2
theorem rows_len : Pinned.pow10Rows.length = 696 := by as_aux_lemma => kernel_rfl
theorem rows_all : (Pinned.pow10Rows.all fun x => decide (9223372036854775808 ≤ x.1) && decide (x.1 < 18446744073709551616) && decide (x.2 < 18446744073709551616)) = true := by as_aux_lemma => kernel_rfl
theorem rows_at {i : Nat} (hi : i < 696) : Pinned.pow10Rows[i]? = some (tabH i, tabL i) := by
  have h : i < Pinned.pow10Rows.length := by rw [rows_len]; exact hi
  unfold tabH tabL
  rw [List.getD_eq_getElem?_getD, List.getElem?_eq_getElem h]
  rfl
theorem tab_ok : TabOk tabH tabL := by
  have h : ∀ i, i < 696 → (9223372036854775808 ≤ tabH i ∧ tabH i < 18446744073709551616) ∧ tabL i < 18446744073709551616 := by
    intro i hi
    have := List.all_eq_true.1 rows_all _ (List.mem_of_getElem? (rows_at hi))
    simpa only [Bool.and_eq_true, decide_eq_true_eq] using this
  exact ⟨fun i hi => (h i hi).1.1, fun i hi => (h i hi).1.2, fun i hi => (h i hi).2⟩
theorem cells155 : Tryz.prog.cellsOf 155 = 1 := by kernel_rfl
theorem cells295 : Tryz.prog.cellsOf 295 = 2 := by kernel_rfl
theorem cells240 : Tryz.prog.cellsOf 240 = 20 := by kernel_rfl
theorem pow_name : Tryz.prog.globalNamed "internal/strconv.pow10Tab" = some 10 := by kernel_rfl
theorem pow_type : (Tryz.prog.globals[10]?).map (·.type) = some 296 := by kernel_rfl
theorem pow_tab {w : World} (h : Lib.VarReads Tryz.prog w "internal/strconv.pow10Tab" Pinned.pow10Tab) : PowTab w tabH tabL := by
  obtain ⟨g, t, cs, fuel, p, hg, hty, hvar, hd⟩ := h
  obtain rfl := Option.some.inj (pow_name.symm.trans hg)
  obtain rfl := Option.some.inj (pow_type.symm.trans hty)
  have one : ∀ i, i < 696 → w.cell? ⟨10, i * 2, none⟩ = some (.int .u64 (tabH i)) ∧ w.cell? ⟨10, i * 2 + 1, none⟩ = some (.int .u64 (tabL i)) := by
    intro i hi
    obtain ⟨fuel', d, q, hdi, he⟩ := Lib.array_elem Tryz.underlying296 hd i hi
    rw [List.getElem?_map, rows_at hi] at hdi
    simp only [Option.map_some, Option.some.injEq] at hdi
    subst hdi
    rw [cells295] at he
    have hcs := Lib.ints_of_struct (zs := [(tabH i : Int), (tabL i : Int)]) Tryz.underlying295 (fun j f hj => by
      match j, hj with
      | 0, hj => simp at hj; subst hj; exact ⟨Tryz.underlying155, rfl, cells155⟩
      | 1, hj => simp at hj; subst hj; exact ⟨Tryz.underlying155, rfl, cells155⟩
      | j + 2, hj => simp at hj) (by rw [cells295]; rfl) he
    have e0 := congrArg (·[0]?) hcs
    have e1 := congrArg (·[1]?) hcs
    simp only [List.getElem?_take, List.getElem?_drop] at e0 e1
    constructor
    · rw [World.var?_cell hg hvar (i * 2), ← Array.getElem?_toList]
      simpa using e0
    · rw [World.var?_cell hg hvar (i * 2 + 1), ← Array.getElem?_toList]
      simpa using e1
  exact ⟨fun i hi => (one i hi).1, fun i hi => (one i hi).2⟩
theorem ten_name : Tryz.prog.globalNamed "internal/strconv.uint64pow10" = some 4 := by kernel_rfl
theorem ten_type : (Tryz.prog.globals[4]?).map (·.type) = some 240 := by kernel_rfl
theorem ten_tab {w : World} (h : Lib.VarReads Tryz.prog w "internal/strconv.uint64pow10" (Lib.tabData .u64 Lib.pow10Tab)) : Lib.TabIs Tryz.prog w "internal/strconv.uint64pow10" .u64 Lib.pow10Tab := by
  obtain ⟨g, t, cs, fuel, p, hg, hty, hvar, hd⟩ := h
  obtain rfl := Option.some.inj (ten_name.symm.trans hg)
  obtain rfl := Option.some.inj (ten_type.symm.trans hty)
  unfold Lib.TabIs
  rw [hvar, ← Lib.cells_of_tab Tryz.underlying240 Tryz.underlying155 cells155 cells240 hd]
theorem numw_of {w : World} (hs : w.ShapedOpen Tryz.prog) (h1 : Lib.VarReads Tryz.prog w "internal/strconv.pow10Tab" Pinned.pow10Tab) (h2 : Lib.VarReads Tryz.prog w "internal/strconv.uint64pow10" (Lib.tabData .u64 Lib.pow10Tab)) : NumW w tabH tabL where
  tabs := {
    pow := pow_tab h1
    ten := Lib.tabBelow_of_tabIs (ten_tab h2)
    lt := by
      have := (pow_tab h1).hi 0 (by decide)
      rcases Nat.lt_or_ge 10 w.heap.size with h | h
      · exact h
      · exfalso
        simp [World.cell?, Array.getElem?_eq_none h] at this }
  most := cell_of_shapedOpen_int (g := 3) (t := 3) (zero := #[.int .i64 0]) hs (of_decide_eq_true (by kernel_rfl)) (by kernel_rfl) rfl (by kernel_rfl) (by kernel_rfl) Tryz.underlying3
theorem cells43 : Tryz.prog.cellsOf 43 = 4 := by kernel_rfl
theorem cells41 : Tryz.prog.cellsOf 41 = 1 := by kernel_rfl
theorem rule_of {H : Type} {enc : TypeId × Value → H} {W : World} {sp : Nat → Bool} {held : Bool} {k : Nat} {cs : List Value} {x : DataW H × List MemPlace} (h : DataW.trod enc Tryz.prog W 0 sp held k 43 cs = some x) :
    ∃ (rk : Int) (lo hi : Nat) (a : Option Addr) (n c : Nat) (tx : Nat → ByteArray), cs = [.int .i64 rk, .float .f64 lo, .float .f64 hi, .slice a n c] ∧ lo < 18446744073709551616 ∧ hi < 18446744073709551616 ∧ TextsAt W a n tx := by
  obtain ⟨xs, n, _, rfl, hl, hlen, hf⟩ := DataW.trod_struct Tryz.underlying43 h
  rw [cells43] at hl
  match cs, hl with
  | [c0, c1, c2, c3], _ =>
    match xs, hlen with
    | [y0, y1, y2, y3], _ =>
      have h0 : DataW.trod enc Tryz.prog W 0 sp held n 3 [c0] = some y0 := by have := hf 0 _ rfl; simpa [Ck.cells3] using this
      have h1 : DataW.trod enc Tryz.prog W 0 sp held n 22 [c1] = some y1 := by have := hf 1 _ rfl; simpa [Ck.cells28] using this
      have h2 : DataW.trod enc Tryz.prog W 0 sp held n 22 [c2] = some y2 := by have := hf 2 _ rfl; simpa [Ck.cells28] using this
      have h3 : DataW.trod enc Tryz.prog W 0 sp held n 41 [c3] = some y3 := by have := hf 3 _ rfl; simpa [cells41] using this
      obtain ⟨rk, e0, _, _⟩ := DataW.trod_int Tryz.underlying3 h0
      obtain ⟨lo, e1, _, w1⟩ := Ck.trod_float Tryz.underlying22 h1
      obtain ⟨hi, e2, _, w2⟩ := Ck.trod_float Tryz.underlying22 h2
      simp only [List.cons.injEq, and_true] at e0 e1 e2
      subst e0 e1 e2
      obtain ⟨m, ⟨a, len, cap, rfl, hm⟩, hel⟩ := Ck.slice_el Tryz.underlying41 (by rw [Ck.cells9]; decide) h3
      have hm : m = len := by omega
      subst hm
      have htx : ∀ j : Nat, ∃ s : ByteArray, j < m → (∃ b off, a = some ⟨b, off, none⟩ ∧ b < W.heap.size ∧ W.cell? ⟨b, off + j, none⟩ = some (.string s)) ∧ s.size ≤ 9223372036854775807 := by
        intro j
        by_cases hj : j < m
        · obtain ⟨ev, cs, k1, k', y, k2⟩ := hel j hj
          obtain ⟨b, off, len', cap', j', e1, e2, e3, e4, e5, e6⟩ := k1 j rfl
          obtain ⟨s, e7, _, hs⟩ := DataW.trod_string Tryz.underlying9 k2
          subst e7
          have hjj : j' = j := by omega
          subst hjj
          cases e1
          refine ⟨s, fun _ => ⟨⟨b, off, rfl, e5, ?_⟩, by unfold maxLen at hs; exact hs⟩⟩
          have := e6 0 (.string s) rfl
          rw [Ck.cells9] at this
          simpa using this
        · exact ⟨⟨#[]⟩, fun h => absurd h hj⟩
      obtain ⟨tx, htx⟩ := Classical.axiomOfChoice htx
      exact ⟨rk, lo, hi, a, m, cap, tx, rfl, of_decide_eq_true w1, of_decide_eq_true w2, ⟨fun j hj => (htx j hj).1, fun j hj => (htx j hj).2⟩⟩
end Go.Proofs.YtkeibmkcgnppeaaGreatDoor
namespace Go.Proofs.YtkeibmkcgnppeaaGreatDoor
open Go Go.Proofs.YtkeibmkcgnppeaaGreatDoor.Rx Go.ChangeShapes Go.WideShapes Go.ChangeAt Go.RowKit
theorem handed_shaped {H : Type} {enc : TypeId × Value → H} {a : Assume} {C : Checked} {os : Os} {f : FuncId} {fn : Func} {s : ChangeSpec} {conds : List PathCond} {apart fresh handsOn again : Bool} {X : World → Array Value → Prop}
    (hX : ∀ (w w' : World) (args : Array Value), w.heap = w'.heap → X w args → X w' args)
    (own : ownKnob C.prog.godebug = none) (started : os.Started) (noInit : C.prog.inits.idxOf? f = none) (hfn : C.prog.funcs[f]? = some fn)
    (witness : ∃ (w : World) (tape : Tape) (i : Input), w.os = os ∧ (w.forCall tape i).Shaped C.prog ∧ i.vars = [] ∧ Input.okWide C.prog (w.forCall tape i) .any w.heap.size f i ∧
      ((s.pre enc C.prog fn conds apart (w.forCall tape i).memory i.args ∧ X (w.forCall tape i).memory i.args) ∧ sizedMet enc C.prog fn (OpenSpec.ofChange s) apart (w.forCall tape i).memory i.args) ∧ a.holds C.prog (lone (Frame.enter C.prog f i.args .normal) [] (w.forCall tape i)))
    (contract : ∀ (W : World) (base : Nat) (args : Array Value) (ds gs : List (DataW H)) (before : List MemPlace),
      (∀ (j : Nat) t v, fn.params[j]? = some t → args[j]? = some v → Value.okWide C.prog W .any base t v) →
      DataW.Whole enc C.prog fn.params.toList s.vars apart W args.toList ds gs before → X W args → W.ShapedOpen C.prog →
      Calls C.prog f args W fun e W' => ∃ v, e = .returned v ∧ s.post enc C.prog fn apart fresh handsOn again W args v W') :
    ReturnsInHanded a C os f .any (fun w args => (s.pre enc C.prog fn conds apart w args ∧ X w args) ∧ sizedMet enc C.prog fn (OpenSpec.ofChange s) apart w args) (s.post enc C.prog fn apart fresh handsOn again) := by
  refine returnsInHanded_of_calls own started noInit witness ?_
  intro w tape i _ hsh _ hok hpre _
  obtain ⟨_, _, _, fn', hfn', _, _, _, _, hval⟩ := hok
  have e : fn' = fn := Option.some.inj (hfn'.symm.trans hfn)
  subst e
  obtain ⟨⟨⟨ds, gs, before, hw, _⟩, hx⟩, _⟩ := hpre
  refine (contract (w.forCall tape i) w.heap.size i.args ds gs before hval (DataW.Whole.of_heap (w' := w.forCall tape i) (by rfl) hw) (hX _ _ _ (by rfl) hx) hsh).mono fun e W' ⟨v, he, hp⟩ => ?_
  subst he
  exact ChangeSpec.post_blind hp
theorem own : ownKnob Tryz.prog.godebug = none := by kernel_rfl
theorem laid_out : laidOutB Tryz.prog = true := by as_aux_lemma => kernel_rfl
namespace Sf
theorem laid_plain : (Rows.saveFormatsRow.laid.all fun x => x.2.handleName?.isNone) = true := by kernel_rfl
theorem readable : ∀ t ∈ Tryz.f4.params.toList, Tryz.prog.readableRec t = true ∧ t < Tryz.prog.types.size := by
  rw [Tryz.params4]
  intro t ht
  have hm : t ∈ [40, 3, 43] := ht
  have hall : ([40, 3, 43].all fun u => Tryz.prog.readableRec u && decide (u < Tryz.prog.types.size)) = true := by as_aux_lemma => kernel_rfl
  have := List.all_eq_true.1 hall t hm
  simpa using this
theorem first_in : ("unicode/utf8.first", (Lib.firstData : DataW Unit)) ∈ Rows.saveFormatsRow.laid := List.mem_of_getElem? (i := 9) (by kernel_rfl)
theorem accept_in : ("unicode/utf8.acceptRanges", (Lib.acceptData : DataW Unit)) ∈ Rows.saveFormatsRow.laid := List.mem_of_getElem? (i := 4) (by kernel_rfl)
theorem ten_in : ("internal/strconv.uint64pow10", (Lib.tabData .u64 Lib.pow10Tab : DataW Unit)) ∈ Rows.saveFormatsRow.laid := List.mem_of_getElem? (i := 3) (by kernel_rfl)
theorem pow_in : ("internal/strconv.pow10Tab", (Pinned.pow10Tab : DataW Unit)) ∈ Rows.saveFormatsRow.laid := List.mem_of_getElem? (i := 8) rfl
set_option maxRecDepth 1000000 in
set_option maxHeartbeats 12800000 in
theorem lifted (os : Os) (started : os.Started) (H : Type) (enc : TypeId × Value → H) :
    ReturnsInHanded {} Tryz.checked os 4 .any (fun w args => (Rows.saveFormatsSpec.pre enc Tryz.prog Tryz.f4 Rows.saveFormatsRow.domain false w args ∧ laidMetH Tryz.prog Rows.saveFormatsRow.laid w) ∧ sizedMet enc Tryz.prog Tryz.f4 (OpenSpec.ofChange Rows.saveFormatsSpec) false w args)
      (Rows.saveFormatsSpec.post enc Tryz.prog Tryz.f4 false true false false) := by
  refine handed_shaped (C := Tryz.checked) (X := fun w _ => laidMetH Tryz.prog Rows.saveFormatsRow.laid w) (fun _ _ _ hh h => h.of_heap hh) own started (by kernel_rfl) Tryz.func4
    (ChangeSpec.witness_shaped (enc := enc) (C := Tryz.checked) (os := os) (X := fun w _ => laidMetH Tryz.prog Rows.saveFormatsRow.laid w) false (World.laidAll Tryz.prog os Rows.saveFormatsRow.laid)
      #[.agg #[.int .i64 0, .slice none 0 0, .slice none 0 0, .bool false], .int .i64 0, .agg #[.int .i64 0, .float .f64 0, .float .f64 0, .slice none 0 0]] 40 (World.laidAll_os _ _ _)
      (World.shaped_of_ZipB (by as_aux_lemma => kernel_rfl) (by as_aux_lemma => kernel_rfl)) (by as_aux_lemma => kernel_rfl) (by as_aux_lemma => kernel_rfl) (by as_aux_lemma => kernel_rfl)
      (by rw [MakeChecks.laidMetH_plain _ _ _ laid_plain]; exact laidMet_laidAll _ (by as_aux_lemma => kernel_rfl) (by as_aux_lemma => kernel_rfl))) ?_
  intro W base args ds gs before hval0 hW hL hsh
  have hval : ∀ (j : Nat) t v, Tryz.f4.params[j]? = some t → args[j]? = some v → Value.okWide Tryz.prog W .any base t v := hval0
  have hW0 := hW
  obtain ⟨p, q, hA0, hV, hpq, _, _⟩ := hW0
  have hA : DataW.TrodAll enc Tryz.prog W 0 (fun _ => true) true Tryz.f4.params.toList args.toList ds p := hA0
  rw [Tryz.params4] at hA hval
  obtain ⟨v0, v1, v2, d0, d1, d2, p0, p1, p2, rfl, rfl, _, h0, h1, h2⟩ := trodAll_three hA
  obtain ⟨rfl, rfl⟩ := trodVars_none hV
  obtain ⟨c0, rfl, s0, o0⟩ := open_cells Tryz.underlying40 (hval 0 40 v0 rfl rfl)
  obtain ⟨c2, rfl, s2, o2⟩ := open_cells Tryz.underlying43 (hval 2 43 v2 rfl rfl)
  rw [MakeChecks.laidMetH_plain _ _ _ laid_plain] at hL
  have hT : Ck.Tabs W := Ck.tabs_of (Lib.laidMet.reads hL first_in) (Lib.laidMet.reads hL accept_in)
  have hG : Ground W tabH tabL := ⟨cells_ok hL, numw_of hsh (Lib.laidMet.reads hL pow_in) (Lib.laidMet.reads hL ten_in)⟩
  obtain ⟨fuel0, hf0⟩ := h0
  obtain ⟨fuel2, hf2⟩ := h2
  obtain ⟨D, hD, sp, sq, hok, hmore⟩ := Ck.fd_of hG.cs hT (show DataW.trod enc Tryz.prog W 0 (fun _ => true) true fuel0 40 c0.toList = _ from hf0)
  obtain ⟨rk, lo, hi, a, n, c, tx, hr, hlo, hhi, hx⟩ := rule_of (show DataW.trod enc Tryz.prog W 0 (fun _ => true) true fuel2 43 c2.toList = _ from hf2)
  obtain ⟨nn, rfl, _, _, w1⟩ := open_int Tryz.underlying3 (hval 1 3 v1 rfl rfl) h1
  have hF := fmt_both hG tab_ok hT sp sq hok hmore nn (Ck.in64 w1).2
  have hC := cond_both hG tab_ok hT rk hlo hhi (c := c) hx
  obtain ⟨pa, pn, pc, hp, _⟩ := sp
  obtain ⟨qa, qn, qc, hq, _⟩ := sq
  have hc0 : Value.agg c0 = .agg #[.int .i64 D.k, .slice pa pn pc, .slice qa qn qc, .bool D.wh] := by
    congr 1
    exact Array.ext' (by rw [hD, hp, hq])
  have hc2 : Value.agg c2 = Ru.ruleV rk lo hi a n c := by
    unfold Ru.ruleV
    congr 1
    exact Array.ext' hr
  have fin := law4 hG (k := D.k) (pa := pa) (qa := qa) (pn := pn) (pc := pc) (qn := qn) (qc := qc) (wh := D.wh) (nn := nn) (by unfold Ck.FD.arg at hF; rw [hp, hq] at hF; exact hF) hC
  rw [← hc0, ← hc2] at fin
  refine fin.mono fun e W1 ⟨he, hb⟩ => ?_
  subst he
  exact ⟨_, rfl, post_below laid_out readable hW rfl rfl rfl (fun _ _ _ => trodAll_mk1 (shut_bool Tryz.underlying4 _)) hb (ok_one (by kernel_rfl) rfl (okWide_bool_mk Tryz.underlying4 _))⟩
end Sf
end Go.Proofs.YtkeibmkcgnppeaaGreatDoor

/- The law s guard; the tables that are laid. -/
import Derived.Test.YtkeibmkcgnppeaaGreatDoorZHa
import Derived.Test.YtkeibmkcgnppeaaGreatDoorZGa
import Derived.Lib.LaidU8
import Derived.Lib.LaidTab
import Derived.Shelf.Vars
import Derived.Test.YtkeibmkcgnppeaaGreatDoorZRd
import Derived.Test.YtkeibmkcgnppeaaGreatDoorTie
import Derived.Test.YtkeibmkcgnppeaaGreatDoorCards
import Derived.ProofKit
import Derived.OpenShut
import Derived.LaidMore
import Derived.Lay
import Derived.SevenTiedAt
import Derived.Stop.Joined
import Derived.HandedShaped
set_option maxHeartbeats 32000000
namespace Go.Proofs.YtkeibmkcgnppeaaGreatDoor
open Go Go.Proofs.YtkeibmkcgnppeaaGreatDoor.Rx
set_option maxRecDepth 1000000
theorem begun_eval : Ck.saysB true (ans (eval env 3000 (.call (.fn 7) [] ⟨0, .leaf⟩))) = true := by kernel_rfl
theorem begun_call {w : World} (hg : Consts w) : Calls Tryz.prog 7 #[] w fun e w' => e = .returned (.bool true) ∧ RowKit.Below w.heap.size w w' :=
  lit_call env_ok (args := []) (Ck.saysB_ok begun_eval) w hg
open Go Go.ChangeShapes Go.WideShapes Go.ChangeAt Go.RowKit
set_option maxRecDepth 100000
def tabH (i : Nat) : Nat := (Pinned.pow10Rows.getD i (0, 0)).1
def tabL (i : Nat) : Nat := (Pinned.pow10Rows.getD i (0, 0)).2
theorem rows_len : Pinned.pow10Rows.length = 696 := by as_aux_lemma => kernel_rfl
theorem rows_all : (Pinned.pow10Rows.all fun x => decide (9223372036854775808 ≤ x.1) && decide (x.1 < 18446744073709551616) && decide (x.2 < 18446744073709551616)) = true := by as_aux_lemma => kernel_rfl
theorem rows_at {i : Nat} (hi : i < 696) : Pinned.pow10Rows[i]? = some (tabH i, tabL i) := by
  have h : i < Pinned.pow10Rows.length := by rw [rows_len]; exact hi
  unfold tabH tabL
  rw [List.getD_eq_getElem?_getD, List.getElem?_eq_getElem h]
  rfl
theorem tab_ok : TabOk tabH tabL := by
  have h : ∀ i, i < 696 → (9223372036854775808 ≤ tabH i ∧ tabH i < 18446744073709551616) ∧ tabL i < 18446744073709551616 := by
    intro i hi
    have := List.all_eq_true.1 rows_all _ (List.mem_of_getElem? (rows_at hi))
    simpa only [Bool.and_eq_true, decide_eq_true_eq] using this
  exact ⟨fun i hi => (h i hi).1.1, fun i hi => (h i hi).1.2, fun i hi => (h i hi).2⟩
theorem cells155 : Tryz.prog.cellsOf 155 = 1 := by kernel_rfl
theorem cells295 : Tryz.prog.cellsOf 295 = 2 := by kernel_rfl
theorem cells240 : Tryz.prog.cellsOf 240 = 20 := by kernel_rfl
theorem pow_name : Tryz.prog.globalNamed "internal/strconv.pow10Tab" = some 10 := by kernel_rfl
theorem pow_type : (Tryz.prog.globals[10]?).map (·.type) = some 296 := by kernel_rfl
theorem pow_tab {w : World} (h : Lib.VarReads Tryz.prog w "internal/strconv.pow10Tab" Pinned.pow10Tab) : PowTab w tabH tabL := by
  obtain ⟨g, t, cs, fuel, p, hg, hty, hvar, hd⟩ := h
  obtain rfl := Option.some.inj (pow_name.symm.trans hg)
  obtain rfl := Option.some.inj (pow_type.symm.trans hty)
  have one : ∀ i, i < 696 → w.cell? ⟨10, i * 2, none⟩ = some (.int .u64 (tabH i)) ∧ w.cell? ⟨10, i * 2 + 1, none⟩ = some (.int .u64 (tabL i)) := by
    intro i hi
    obtain ⟨fuel', d, q, hdi, he⟩ := Lib.array_elem Tryz.underlying296 hd i hi
    rw [List.getElem?_map, rows_at hi] at hdi
    simp only [Option.map_some, Option.some.injEq] at hdi
    subst hdi
    rw [cells295] at he
    have hcs := Lib.ints_of_struct (zs := [(tabH i : Int), (tabL i : Int)]) Tryz.underlying295 (fun j f hj => by
      match j, hj with
      | 0, hj => simp at hj; subst hj; exact ⟨Tryz.underlying155, rfl, cells155⟩
      | 1, hj => simp at hj; subst hj; exact ⟨Tryz.underlying155, rfl, cells155⟩
      | j + 2, hj => simp at hj) (by rw [cells295]; rfl) he
    have e0 := congrArg (·[0]?) hcs
    have e1 := congrArg (·[1]?) hcs
    simp only [List.getElem?_take, List.getElem?_drop] at e0 e1
    constructor
    · rw [World.var?_cell hg hvar (i * 2), ← Array.getElem?_toList]
      simpa using e0
    · rw [World.var?_cell hg hvar (i * 2 + 1), ← Array.getElem?_toList]
      simpa using e1
  exact ⟨fun i hi => (one i hi).1, fun i hi => (one i hi).2⟩
theorem ten_name : Tryz.prog.globalNamed "internal/strconv.uint64pow10" = some 4 := by kernel_rfl
theorem ten_type : (Tryz.prog.globals[4]?).map (·.type) = some 240 := by kernel_rfl
theorem ten_tab {w : World} (h : Lib.VarReads Tryz.prog w "internal/strconv.uint64pow10" (Lib.tabData .u64 Lib.pow10Tab)) : Lib.TabIs Tryz.prog w "internal/strconv.uint64pow10" .u64 Lib.pow10Tab := by
  obtain ⟨g, t, cs, fuel, p, hg, hty, hvar, hd⟩ := h
  obtain rfl := Option.some.inj (ten_name.symm.trans hg)
  obtain rfl := Option.some.inj (ten_type.symm.trans hty)
  unfold Lib.TabIs
  rw [hvar, ← Lib.cells_of_tab Tryz.underlying240 Tryz.underlying155 cells155 cells240 hd]
theorem numw_of {w : World} (hs : w.ShapedOpen Tryz.prog) (h1 : Lib.VarReads Tryz.prog w "internal/strconv.pow10Tab" Pinned.pow10Tab) (h2 : Lib.VarReads Tryz.prog w "internal/strconv.uint64pow10" (Lib.tabData .u64 Lib.pow10Tab)) : NumW w tabH tabL where
  tabs := {
    pow := pow_tab h1
    ten := Lib.tabBelow_of_tabIs (ten_tab h2)
    lt := by
      have := (pow_tab h1).hi 0 (by decide)
      rcases Nat.lt_or_ge 10 w.heap.size with h | h
      · exact h
      · exfalso
        simp [World.cell?, Array.getElem?_eq_none h] at this }
  most := cell_of_shapedOpen_int (g := 3) (t := 3) (zero := #[.int .i64 0]) hs (of_decide_eq_true (by kernel_rfl)) (by kernel_rfl) rfl (by kernel_rfl) (by kernel_rfl) Tryz.underlying3
open Go Go.Proofs.YtkeibmkcgnppeaaGreatDoor.Rx Go.ChangeShapes Go.WideShapes Go.ChangeAt Go.RowKit
theorem own : ownKnob Tryz.prog.godebug = none := by kernel_rfl
theorem laid_out : laidOutB Tryz.prog = true := by as_aux_lemma => kernel_rfl
namespace Sf
end Sf
end Go.Proofs.YtkeibmkcgnppeaaGreatDoor

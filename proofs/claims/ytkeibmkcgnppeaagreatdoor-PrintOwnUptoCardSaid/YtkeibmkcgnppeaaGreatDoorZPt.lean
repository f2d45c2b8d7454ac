/- The writer: a text is put; an operand, a list. -/
import Derived.Test.YtkeibmkcgnppeaaGreatDoorZPa
import Derived.Lib.OthersKept
import Derived.Lib.Builder
import Derived.Lib.UnsafeStr
import Derived.Lib.AppendStr
import Derived.Laws.Externs
import Derived.Shelf.Strings.BuilderX
import Derived.Test.YtkeibmkcgnppeaaGreatDoorZPo
set_option maxHeartbeats 32000000
set_option linter.unusedSimpArgs false
set_option linter.unusedVariables false
namespace Go.Proofs.YtkeibmkcgnppeaaGreatDoor
open Go Go.RowKit
set_option maxRecDepth 100000
theorem size100 : (Tryz.prog.info? 100).map (·.size) = some 2 := by kernel_rfl
theorem lies100 : liesAt Tryz.prog Tryz.prog.depth 102 (2 / Tryz.prog.cellsOf 102) 0 100 1 = true := by kernel_rfl
theorem info5b : (Tryz.prog.info? 5).map (fun i => (i.zero, i.size, i.bytes)) = some (some (.int .u8 0), 1, 1) := by kernel_rfl
theorem copy_used (b : Nat) (w : World) (h0 : w.cell? ⟨b, 0, none⟩ = some (.pointer (some ⟨b, 0, none⟩))) :
    Calls Tryz.prog 119 #[.pointer (some ⟨b, 0, none⟩)] w fun e w' => e = .returned (.tuple #[]) ∧ w' = w := by
  obtain ⟨j, hj, _⟩ := Option.map_eq_some_iff.1 size100
  go_enter Tryz.func119, Tryz.ntmps119
  go_wp2
  rw [Lib.run_neq_ptr_same w _ Tryz.underlying97 hj]
  go_wp2
  go_end0
  exact ⟨rfl, rfl⟩
theorem copy_fresh (b : Nat) (w : World) (h0 : w.cell? ⟨b, 0, none⟩ = some (.pointer none)) (hsh : w.shape? b = some (102, 2)) (hfz : w.frozen? ⟨b, 0, none⟩ = false) :
    Calls Tryz.prog 119 #[.pointer (some ⟨b, 0, none⟩)] w fun e w' => e = .returned (.tuple #[]) ∧ w' = w.setCell ⟨b, 0, none⟩ (.pointer (some ⟨b, 0, none⟩)) := by
  obtain ⟨j, hj, hjs⟩ := Option.map_eq_some_iff.1 size100
  go_enter Tryz.func119, Tryz.ntmps119
  go_wp2
  rw [Lib.run_to_unsafe w ⟨b, 0, none⟩ Tryz.underlying97 Tryz.underlying210 hj (by rw [hjs]; decide) hsh (Nat.zero_lt_succ 1)]
  simp only [Result.andThen]
  rw [Oper.upon_value]
  go_wp2
  rw [run_callFunc_extern Tryz.func162 (by kernel_rfl) (by kernel_rfl) (by kernel_rfl) (e := Extern.AbiNoEscape.same) (by kernel_rfl)]
  rw [Lib.run_noEscape]
  simp only [Result.andThen]
  rw [Oper.upon_value]
  go_wp2
  rw [Lib.run_from_unsafe w ⟨b, 0, none⟩ Tryz.underlying210 Tryz.underlying97 hj hsh lies100]
  simp only [Result.andThen]
  rw [Oper.upon_value]
  go_wp2
  go_end0
  exact ⟨rfl, rfl⟩
abbrev WrIs (B b : Nat) (l : List UInt8) (w : World) : Prop := Lib.IsBuilderF 102 5 B b (Lib.byteCells l) w
theorem copy_call (B b : Nat) (bs : List Value) (w : World) (h : Lib.IsBuilderF 102 5 B b bs w) :
    Calls Tryz.prog 119 #[.pointer (some ⟨b, 0, none⟩)] w fun e w' => e = .returned (.tuple #[]) ∧ (Lib.BuilderAtF 102 5 B b (.pointer (some ⟨b, 0, none⟩)) bs w' ∧ Below B w w' ∧ Lib.OthersKept 5 (some b) w w') := by
  rcases h with h | h
  · refine (copy_fresh b w h.cell0 h.shape h.frozen0).mono ?_
    rintro e w' ⟨rfl, rfl⟩
    exact ⟨rfl, h.used _, (Below.refl B w).setCell (p := ⟨b, 0, none⟩) h.1 _, (Lib.OthersKept.refl _ _ w).setCell ⟨b, 0, none⟩ rfl _⟩
  · refine (copy_used b w h.cell0).mono ?_
    rintro e w' ⟨rfl, rfl⟩
    exact ⟨rfl, h, Below.refl B _, Lib.OthersKept.refl _ _ _⟩
theorem string_call (B b : Nat) (bs : List Value) (s : ByteArray) (w : World) (h : Lib.IsBuilderF 102 5 B b bs w) (hlen : bs.length + s.size ≤ 140737488355328) (hBw : B ≤ w.heap.size) :
    Calls Tryz.prog 71 #[.pointer (some ⟨b, 0, none⟩), .string s] w fun e w' => e = .returned (.tuple #[.int .i64 s.size, .nilIface]) ∧ (Lib.BuilderAtF 102 5 B b (.pointer (some ⟨b, 0, none⟩)) (bs ++ Lib.strCells s) w' ∧ Below B w w' ∧ Lib.OthersKept 5 (some b) w w') := by
  obtain ⟨i0, hi, hz0, hz1, hz2⟩ := info_parts info5b
  go_enter Tryz.func71, Tryz.ntmps71
  go_wp2_with (go_at_call 119; refine (copy_call B b bs _ h).mono ?_)
  rintro e w1 ⟨rfl, h1, hb1, hk1⟩
  obtain ⟨hB, v, hbk, hown, hne⟩ := h1
  have c0 : w1.cell? ⟨b, 0, none⟩ = some (.pointer (some ⟨b, 0, none⟩)) := by rw [Lib.cell_of_heap hbk]; rfl
  have c1 : w1.cell? ⟨b, 1, none⟩ = some v := by rw [Lib.cell_of_heap hbk]; rfl
  go_wp2_with (at_builtin; refine Lib.wpList_append_own_stringF _ rfl _ _ 98 9 rfl B 5 i0 Tryz.underlying98 Tryz.underlying9 hi hz0 hz1 hz2 _ _ _ rfl hown s rfl ?c3 ?c4 ?c5 ?_)
  case c3 => unfold maxLen; omega
  case c4 => omega
  case c5 => have := hb1.size; omega
  intro v' w2 hown' hgrow _
  have hlt : b < w1.heap.size := lt_of_some hbk
  have hb2 : w2.heap[b]? = some (.cells #[.pointer (some ⟨b, 0, none⟩), v] 102 (0, 0)) := by
    rw [hgrow.block b hlt (fun e => hne e.symm)]
    exact hbk
  have d0 : w2.cell? ⟨b, 0, none⟩ = some (.pointer (some ⟨b, 0, none⟩)) := by rw [Lib.cell_of_heap hb2]; rfl
  have d1 : w2.cell? ⟨b, 1, none⟩ = some v := by rw [Lib.cell_of_heap hb2]; rfl
  have f1 : w2.frozen? ⟨b, 1, none⟩ = false := Lib.frozen_of_heap hb2 1
  obtain ⟨ao, n', cap, rfl⟩ : ∃ ao n' cap, v' = .slice ao n' cap := by
    rcases hown'.2 with ⟨hv, _⟩ | ⟨g, cap, cur, fz, hv, _⟩
    · exact ⟨_, _, _, hv⟩
    · exact ⟨_, _, _, hv⟩
  go_wp2
  go_ret2
  refine ⟨rfl, ?_, ?_, ?_⟩
  · exact Lib.BuilderAtF.put (T := 102) (e := 5) hB hb2 (bs' := bs ++ Lib.strCells s) (by simpa [Lib.strCells_length] using hown') (by decide)
  · exact (hb1.grown hgrow (by have := hb1.size; omega) (fun k hk => (hown.lt k hk).1)).setCell (p := ⟨b, 1, none⟩) hB _
  · exact (hk1.grown hgrow (Lib.ownsRowF_kind hown)).setCell ⟨b, 1, none⟩ rfl _
theorem len_call (B b : Nat) (bs : List Value) (w : World) (h : Lib.IsBuilderF 102 5 B b bs w) :
    Calls Tryz.prog 38 #[.pointer (some ⟨b, 0, none⟩)] w fun e w' => e = .returned (.int .i64 bs.length) ∧ w' = w := by
  obtain ⟨p, hB, v, hbk, hown, hne⟩ : ∃ p, Lib.BuilderAtF 102 5 B b p bs w := by
    rcases h with h | h
    · exact ⟨_, h⟩
    · exact ⟨_, h⟩
  obtain ⟨ao, cap, rfl⟩ : ∃ ao cap, v = .slice ao bs.length cap := by
    rcases hown.2 with ⟨hv, h0⟩ | ⟨g, cap, cur, fz, hv, _⟩
    · exact ⟨none, 0, by rw [hv, h0]⟩
    · exact ⟨_, _, hv⟩
  have c1 : w.cell? ⟨b, 1, none⟩ = some (.slice ao bs.length cap) := by rw [Lib.cell_of_heap hbk]; rfl
  go_enter Tryz.func38, Tryz.ntmps38
  go_wp2
  go_ret
  exact ⟨rfl, rfl⟩
theorem byteCells_add (l : List UInt8) (s : ByteArray) : Lib.byteCells l ++ Lib.strCells s = Lib.byteCells (l ++ s.data.toList) := by
  simp [Lib.byteCells, Lib.strCells]
def refusedV : Value := .iface 94 (.agg #[])
def WrPost (B b : Nat) (l o : List UInt8) (w : World) (e : Ending) (w' : World) : Prop :=
  (l.length + o.length ≤ 16384 ∧ e = .returned (.tuple #[]) ∧ WrIs B b (l ++ o) w' ∧ Below B w w' ∧ Lib.OthersKept 5 (some b) w w') ∨
  (16384 < l.length + o.length ∧ e = .panicked [{ v := refusedV, recovered := false }] ∧ Below B w w')
theorem put_call (B b : Nat) (l : List UInt8) (s : ByteArray) (w : World) (h : WrIs B b l w) (hl : l.length ≤ 16384) (hs : s.size ≤ 4294967296) (hBw : B ≤ w.heap.size) :
    Calls Tryz.prog 75 #[.pointer (some ⟨b, 0, none⟩), .string s] w (WrPost B b l s.data.toList w) := by
  have c := string_call B b (Lib.byteCells l) s w h (by rw [Lib.byteCells_length]; omega) hBw
  rw [byteCells_add] at c
  have Hc := Lib.hid c
  clear c h
  have hsl : (l ++ s.data.toList).length = l.length + s.size := by simp
  have hsl2 : s.data.toList.length = s.size := by simp
  by_cases hz : l.length + s.size ≤ 16384
  · have hz1 : ¬ (16384 : Int) < ((Lib.byteCells (l ++ s.data.toList)).length : Int) := by rw [Lib.byteCells_length, hsl]; omega
    go_enter Tryz.func75, Tryz.ntmps75
    go_wp2_with (first
      | (go_at_call 71; refine Hc.out.mono ?_; rintro e w1 ⟨rfl, h1, hb1, hk1⟩)
      | (go_at_call 38; refine (len_call B b _ _ (.inr h1)).mono ?_; rintro e w2 ⟨rfl, rfl⟩))
    go_end0
    exact .inl ⟨by rw [hsl2]; exact hz, rfl, .inr h1, hb1, hk1⟩
  · have hz1 : (16384 : Int) < ((Lib.byteCells (l ++ s.data.toList)).length : Int) := by rw [Lib.byteCells_length, hsl]; omega
    go_enter Tryz.func75, Tryz.ntmps75
    go_wp2_with (first
      | (go_at_call 71; refine Hc.out.mono ?_; rintro e w1 ⟨rfl, h1, hb1, hk1⟩)
      | (go_at_call 38; refine (len_call B b _ _ (.inr h1)).mono ?_; rintro e w2 ⟨rfl, rfl⟩))
    refine ⟨rfl, ?_⟩
    exact .inr ⟨by rw [hsl2]; omega, rfl, hb1⟩
open Go Go.RowKit
set_option maxRecDepth 100000
theorem WrPost.next {B b : Nat} {l o1 o2 : List UInt8} {w w1 w' : World} {e : Ending} (h1 : l.length + o1.length ≤ 16384) (hb : Below B w w1) (hk : Lib.OthersKept 5 (some b) w w1) (h : WrPost B b (l ++ o1) o2 w1 e w') : WrPost B b l (o1 ++ o2) w e w' := by
  rcases h with ⟨a, he, c, d, f⟩ | ⟨a, he, d⟩
  · refine .inl ⟨by rw [List.length_append] at a ⊢; omega, he, ?_, hb.trans d, hk.trans f⟩
    rw [← List.append_assoc]
    exact c
  · exact .inr ⟨by rw [List.length_append] at a ⊢; omega, he, hb.trans d⟩
theorem WrPost.more {B b : Nat} {l o1 o2 : List UInt8} {w w' : World} {e : Ending} (h : 16384 < l.length + o1.length ∧ e = .panicked [{ v := refusedV, recovered := false }] ∧ Below B w w') : WrPost B b l (o1 ++ o2) w e w' :=
  .inr ⟨by rw [List.length_append]; have := h.1; omega, h.2.1, h.2.2⟩
theorem WrPost.from {B b : Nat} {l o : List UInt8} {w w1 w' : World} {e : Ending} (hb : Below B w w1) (hk : Lib.OthersKept 5 (some b) w w1) (h : WrPost B b l o w1 e w') : WrPost B b l o w e w' := by
  rcases h with ⟨a, he, c, d, f⟩ | ⟨a, he, d⟩
  · exact .inl ⟨a, he, c, hb.trans d, hk.trans f⟩
  · exact .inr ⟨a, he, hb.trans d⟩
theorem later_B {W w w' : World} {B : Nat} (h : Ck.Later W w) (hB : W.heap.size ≤ B) (hb : Below B w w') : Ck.Later W w' :=
  ⟨Nat.le_trans h.1 hb.size, fun k hk => (hb.block k (Nat.lt_of_lt_of_le hk hB)).trans (h.2 k hk)⟩
theorem box_kept {w w' : World} {b c : Nat} {cs : Array Value} (hk : Lib.OthersKept 5 (some b) w w') (h : w.heap[c]? = some (.cells cs 29 (0, 0))) (hne : c ≠ b) : w'.heap[c]? = some (.cells cs 29 (0, 0)) :=
  hk c _ h (fun e => hne (Option.some.inj e)) (fun d fz e => by cases e)
theorem WrIs.alloc {B b : Nat} {l : List UInt8} {w : World} (h : WrIs B b l w) (o : Obj) : WrIs B b l (w.alloc o) := by
  rcases h with h | h
  · exact .inl (h.alloc o)
  · exact .inr (h.alloc o)
theorem WrIs.lt {B b : Nat} {l : List UInt8} {w : World} (h : WrIs B b l w) : b < w.heap.size := by
  rcases h with h | h
  · exact h.lt
  · exact h.lt
theorem wr_same {B b : Nat} {l : List UInt8} {w w' : World} (h : WrIs B b l w) (hk : ∀ c, c < w.heap.size → w'.heap[c]? = w.heap[c]?) : WrIs B b l w' := by
  have key : ∀ p, Lib.BuilderAtF 102 5 B b p (Lib.byteCells l) w → Lib.BuilderAtF 102 5 B b p (Lib.byteCells l) w' := fun p h => by
    have hlt := h.lt
    obtain ⟨hB, v, hb, hown, hne⟩ := h
    refine ⟨hB, v, (hk b hlt).trans hb, ⟨hown.1, ?_⟩, hne⟩
    rcases hown.2 with h0 | ⟨g, cap, cur, fz, h1, h2, h3, h4⟩
    · exact .inl h0
    · exact .inr ⟨g, cap, cur, fz, h1, h2, (hk g (lt_of_some h3)).trans h3, h4⟩
  rcases h with h | h
  · exact .inl (key _ h)
  · exact .inr (key _ h)
def TermOut (W : World) (t : TermD) (o : List UInt8) : Prop := ∀ x : RV, x.Is W t → ∀ (B b : Nat) (l : List UInt8) (w : World), W.heap.size ≤ B → B ≤ w.heap.size → WrIs B b l w → l.length ≤ 16384 → Ck.Later W w →
  Calls Tryz.prog 37 #[.pointer (some ⟨b, 0, none⟩), .agg (x.s.arr (.slice x.p x.n x.m))] w (WrPost B b l o w)
theorem wop_call {W : World} {t : TermD} {o : List UInt8} (hO : TermOut W t o) {x : RV} (hx : x.Is W t) (B b : Nat) (l : List UInt8) (w : World) (hB : W.heap.size ≤ B) (hBw : B ≤ w.heap.size) (h : WrIs B b l w) (hl : l.length ≤ 16384) (hw : Ck.Later W w) (apart : Bool) :
    Calls Tryz.prog 82 #[.pointer (some ⟨b, 0, none⟩), .agg (x.s.arr (.slice x.p x.n x.m)), .bool apart] w (WrPost B b l (if apart then [40] ++ (o ++ [41]) else o) w) := by
  have HO := Lib.hid (fun l w => hO x hx B b l w hB)
  have HB := Lib.hid hB
  have H := Lib.hid h
  have Hl := Lib.hid hl
  have Hw := Lib.hid hw
  have hbl := WrIs.lt h
  obtain ⟨s, p, n, m⟩ := x
  simp only at HO ⊢
  have hA1 := Scal.arr_size s (.slice p n m)
  clear hO hx hB h hl hw
  go_enter Tryz.func82, Tryz.ntmps82
  go_upto_region 1 with fail
  generalize hW1 : World.alloc w _ = W1
  have hbc : Below B w W1 := by rw [← hW1]; exact (Below.refl _ _).alloc hBw _
  have hC : W1.heap[w.heap.size]? = some (.cells (s.row (.slice p n m)).toArray 29 (0, 0)) := by rw [← hW1]; exact heap_alloc_new _ _
  have h1 : WrIs B b l W1 := by rw [← hW1]; exact WrIs.alloc H.out _
  have hk1 : Lib.OthersKept 5 (some b) w W1 := by rw [← hW1]; exact (Lib.OthersKept.refl _ _ _).alloc _
  clear hW1
  have HC := Lib.hid hC
  have Hbc := Lib.hid hbc
  have H1 := Lib.hid h1
  have Hk1 := Lib.hid hk1
  have hne : w.heap.size ≠ b := by omega
  have hs1 := hbc.size
  clear hC hbc h1 hk1
  have base : l = l ++ [] := (List.append_nil l).symm
  have Hbase := Lib.hid base
  clear base
  cases apart
  · go_wp2_with (first
      | (go_at_call 37; refine (HO.out l W1 (Nat.le_trans hBw hs1) H1.out Hl.out (later_B Hw.out HB.out Hbc.out)).mono ?_; rintro e w2 (⟨a2, rfl, h2, hb2, hk2⟩ | ⟨a2, rfl, hb2⟩))
      | (refine wpList_load_row rfl 29 _ rfl w.heap.size rfl 29 (s.arr (.slice p n m)) (0, 0) _ HC.out Tryz.underlying29 rfl size29 ?_))
    · go_end0
      exact WrPost.from Hbc.out Hk1.out (.inl ⟨a2, rfl, h2, hb2, hk2⟩)
    · exact ⟨rfl, WrPost.from Hbc.out Hk1.out (.inr ⟨a2, rfl, hb2⟩)⟩
  · go_wp2_with (first
      | (go_at_call 37; refine (HO.out (l ++ [40]) w2 (Nat.le_trans hBw (Nat.le_trans hs1 hb2.size)) h2 (by rw [List.length_append]; exact a2) (later_B Hw.out HB.out (Hbc.out.trans hb2))).mono ?_; rintro e w3 (⟨a3, rfl, h3, hb3, hk3⟩ | ⟨a3, rfl, hb3⟩))
      | (go_at_call 75; refine (put_call B b ((l ++ [40]) ++ o) ⟨#[41]⟩ w3 h3 (by rw [List.length_append]; exact a3) (by decide) (Nat.le_trans hBw (Nat.le_trans hs1 (Nat.le_trans hb2.size hb3.size)))).mono ?_; rintro e w4 (⟨a4, rfl, h4, hb4, hk4⟩ | ⟨a4, rfl, hb4⟩))
      | (go_at_call 75; refine (put_call B b l ⟨#[40]⟩ W1 H1.out Hl.out (by decide) (Nat.le_trans hBw hs1)).mono ?_; rintro e w2 (⟨a2, rfl, h2, hb2, hk2⟩ | ⟨a2, rfl, hb2⟩))
      | (refine wpList_load_row rfl 29 _ rfl w.heap.size rfl 29 (s.arr (.slice p n m)) (0, 0) _ (box_kept hk2 HC.out hne) Tryz.underlying29 rfl size29 ?_))
    · go_end0
      exact WrPost.from Hbc.out Hk1.out (WrPost.next (o1 := [40]) a2 hb2 hk2 (WrPost.next a3 hb3 hk3 (.inl ⟨a4, rfl, h4, hb4, hk4⟩)))
    · exact ⟨rfl, WrPost.from Hbc.out Hk1.out (WrPost.next (o1 := [40]) a2 hb2 hk2 (WrPost.next a3 hb3 hk3 (.inr ⟨a4, rfl, hb4⟩)))⟩
    · exact ⟨rfl, WrPost.from Hbc.out Hk1.out (WrPost.next (o1 := [40]) a2 hb2 hk2 (WrPost.more ⟨a3, rfl, hb3⟩))⟩
    · exact ⟨rfl, WrPost.from Hbc.out Hk1.out (WrPost.more (o1 := [40]) ⟨a2, rfl, hb2⟩)⟩
def preO (f : Nat → List UInt8) : Nat → List UInt8
  | 0 => []
  | j + 1 => preO f j ++ f j
theorem preO_le (f : Nat → List UInt8) : ∀ {j n : Nat}, j ≤ n → (preO f j).length ≤ (preO f n).length
  | j, 0, h => by obtain rfl : j = 0 := by omega
                  exact Nat.le_refl _
  | j, n + 1, h => by
    rcases Nat.lt_or_ge j (n + 1) with h1 | h1
    · have := preO_le f (show j ≤ n by omega)
      simp only [preO, List.length_append]
      omega
    · obtain rfl : j = n + 1 := by omega
      exact Nat.le_refl _
theorem preO_over {f : Nat → List UInt8} {l : List UInt8} {j n k : Nat} (h : 16384 < (l ++ preO f j).length + k) (hk : k ≤ (f j).length) (hj : j < n) : 16384 < l.length + (preO f n).length := by
  have := preO_le f (show j + 1 ≤ n from hj)
  simp only [preO, List.length_append] at *
  omega
theorem preO_step {f : Nat → List UInt8} {l : List UInt8} {j : Nat} {o : List UInt8} (hf : f j = o) (h : (l ++ preO f j).length + o.length ≤ 16384) : l.length + (preO f (j + 1)).length ≤ 16384 := by
  simp only [preO, List.length_append, hf] at *
  omega
theorem preO_is {f : Nat → List UInt8} {l : List UInt8} {j B b : Nat} {o : List UInt8} {w : World} (hf : f j = o) (h : WrIs B b (l ++ preO f j ++ o) w) : WrIs B b (l ++ preO f (j + 1)) w := by
  have e : l ++ preO f (j + 1) = l ++ preO f j ++ o := by rw [List.append_assoc, ← hf]; rfl
  rw [e]
  exact h
def listO (os : Nat → List UInt8) (i : Nat) : List UInt8 := if i = 0 then os i else [59] ++ os i
theorem wlist_call {W : World} {x : RV} {t : TermD} (hx : x.Is W t) (os : Nat → List UInt8) (hos : ∀ i (h : i < t.args.length), TermOut W t.args[i] (os i)) (B b : Nat) (l : List UInt8) (w : World) (hB : W.heap.size ≤ B) (hBw : B ≤ w.heap.size) (h : WrIs B b l w) (hl : l.length ≤ 16384) (hw : Ck.Later W w) :
    Calls Tryz.prog 79 #[.pointer (some ⟨b, 0, none⟩), .slice x.p x.n x.m] w (WrPost B b l (preO (listO os) x.n) w) := by
  have hkid := fun j hj => RV.Is.kid hx (j := j) hj
  have hn := hx.n
  have hlen := hx.len
  have Hkid := Lib.hid hkid
  have Hos := Lib.hid hos
  have HB := Lib.hid hB
  have H := Lib.hid h
  have Hl := Lib.hid hl
  have Hw := Lib.hid hw
  obtain ⟨s, p, n, m⟩ := x
  simp only at hn hlen Hkid ⊢
  have Hn := Lib.hid hn
  clear hkid hos hB h hl hw hx hn
  go_enter Tryz.func79, Tryz.ntmps79
  go_wp2_with fail
  go_loopw [8] (fun i wr => ∃ j : Nat, i = .int .i64 j ∧ j ≤ n ∧ l.length + (preO (listO os) j).length ≤ 16384 ∧ WrIs B b (l ++ preO (listO os) j) wr ∧ Below B w wr ∧ Lib.OthersKept 5 (some b) w wr) (fun i _ => n - (intOf i).toNat)
  case atStart => exact ⟨0, rfl, Nat.zero_le _, by have := Hl.out; simpa [preO] using this, by have := H.out; simpa [preO] using this, Below.refl _ _, Lib.OthersKept.refl _ _ _⟩
  case round =>
    obtain ⟨j, rfl, hj, hlj, h1, hbw, hkw⟩ := hrel
    rcases Nat.lt_or_ge j n with hlt | hge
    · have hja : j < t.args.length := by rw [← Hn.out]; exact hlt
      obtain ⟨g, o, y, hpo, hy, hcl⟩ := Hkid.out j hja
      subst hpo
      have hC := hcl wr (later_B Hw.out HB.out hbw)
      have HO := Lib.hid (fun l' w' => Hos.out j hja y hy B b l' w' HB.out)
      obtain ⟨ys, yp, yn, ym⟩ := y
      simp only at hC HO
      have hbl := WrIs.lt h1
      have HC := Lib.hid hC
      have H1 := Lib.hid h1
      have Hbw := Lib.hid hbw
      have Hkw := Lib.hid hkw
      have Hlj := Lib.hid hlj
      have hsw := hbw.size
      have hjz : (j : Int) < (n : Int) := by omega
      have hj0 : (0 : Int) ≤ (j : Int) := by omega
      have hA2 := Scal.arr_size ys (.slice yp yn ym)
      have Hlt := Lib.hid hlt
      clear hC hcl hy h1 hbw hkw hlj
      go_upto_region 3 with (first
        | (refine wpList_load_mid rfl 29 _ rfl g (o + j * 19) rfl (ys.row (.slice yp yn ym)) _ HC.out Tryz.underlying29 rfl size29 ?_)
        | (refine wpList_store_row rfl 29 _ _ rfl wr.heap.size (ys.arr (.slice yp yn ym)) rfl rfl 29 zeroTerm (heap_alloc_new _ _) size29 rfl (Scal.arr_one _ _ _ _) ?_))
      generalize hW1 : World.setRow _ _ _ = W1
      have hC1 : W1.heap[wr.heap.size]? = some (.cells (ys.row (.slice yp yn ym)).toArray 29 (0, 0)) := by
        rw [← hW1]
        exact setRow_heap _ _ _ _ _ _ (heap_alloc_new _ _)
      have hs1 : wr.heap.size < W1.heap.size := lt_of_some hC1
      have hk1 : ∀ c, c < wr.heap.size → W1.heap[c]? = wr.heap[c]? := fun c hc => by rw [← hW1, setRow_far _ _ (by omega), heap_alloc_old _ _ hc]
      have hb1 : Below B w W1 := by
        rw [← hW1]
        exact below_setRow (Hbw.out.alloc (Nat.le_trans hBw hsw) _) (Nat.le_trans hBw hsw) _
      have ho1 : Lib.OthersKept 5 (some b) w W1 := fun k ob hk hkb hkk => by
        have h2 := Hkw.out k ob hk hkb hkk
        rw [hk1 k (lt_of_some h2)]
        exact h2
      have hw1 : WrIs B b (l ++ preO (listO os) j) W1 := wr_same H1.out hk1
      clear hW1
      have HC1 := Lib.hid hC1
      have Hb1 := Lib.hid hb1
      have Ho1 := Lib.hid ho1
      have Hw1 := Lib.hid hw1
      have hne : wr.heap.size ≠ b := by omega
      clear hC1 hk1 hb1 ho1 hw1
      have hlen1 : (l ++ preO (listO os) j).length ≤ 16384 := by rw [List.length_append]; exact Hlj.out
      have Hlen1 := Lib.hid hlen1
      clear hlen1
      by_cases hj00 : j = 0
      · subst hj00
        have hj1 : ((0 : Int) < ((0 : Nat) : Int)) = False := eq_false (by omega)
        go_wp2_with (first
          | (go_at_call 37; refine (HO.out _ W1 (Nat.le_trans hBw (Nat.le_trans hsw (Nat.le_of_lt hs1))) Hw1.out Hlen1.out (later_B Hw.out HB.out Hb1.out)).mono ?_; rintro e w2 (⟨a2, rfl, h2, hb2, hk2⟩ | ⟨a2, rfl, hb2⟩))
          | (refine wpList_load_row rfl 29 _ rfl wr.heap.size rfl 29 (ys.arr (.slice yp yn ym)) (0, 0) _ HC1.out Tryz.underlying29 rfl size29 ?_))
        · have hf : listO os 0 = os 0 := if_pos rfl
          exact ⟨⟨0 + 1, rfl, Hlt.out, preO_step hf a2, preO_is hf h2, Hb1.out.trans hb2, Ho1.out.trans hk2⟩, by have := Hlt.out; simp only [intOf]; omega⟩
        · have hf : listO os 0 = os 0 := if_pos rfl
          exact ⟨rfl, .inr ⟨preO_over a2 (by rw [hf]; exact Nat.le_refl _) Hlt.out, rfl, Hb1.out.trans hb2⟩⟩
      · have hj1 : (0 : Int) < (j : Int) := by omega
        have hf : listO os j = [59] ++ os j := if_neg hj00
        have Hf := Lib.hid hf
        clear hf
        go_wp2_with (first
          | (go_at_call 37; refine (HO.out _ w2 (Nat.le_trans hBw (Nat.le_trans hsw (Nat.le_trans (Nat.le_of_lt hs1) hb2.size))) h2 (by rw [List.length_append]; exact a2) (later_B Hw.out HB.out (Hb1.out.trans hb2))).mono ?_; rintro e w3 (⟨a3, rfl, h3, hb3, hk3⟩ | ⟨a3, rfl, hb3⟩))
          | (go_at_call 75; refine (put_call B b (l ++ preO (listO os) j) ⟨#[59]⟩ W1 Hw1.out Hlen1.out (by decide) (Nat.le_trans hBw (Nat.le_trans hsw (Nat.le_of_lt hs1)))).mono ?_; rintro e w2 (⟨a2, rfl, h2, hb2, hk2⟩ | ⟨a2, rfl, hb2⟩))
          | (refine wpList_load_row rfl 29 _ rfl wr.heap.size rfl 29 (ys.arr (.slice yp yn ym)) (0, 0) _ (box_kept hk2 HC1.out hne) Tryz.underlying29 rfl size29 ?_))
        · refine ⟨⟨j + 1, rfl, Hlt.out, preO_step Hf.out ?_, preO_is Hf.out ?_, Hb1.out.trans (hb2.trans hb3), Ho1.out.trans (hk2.trans hk3)⟩, by have := Hlt.out; simp only [intOf]; omega⟩
          · have := a3
            simp only [List.length_append] at this ⊢
            have e : (⟨#[59]⟩ : ByteArray).data.toList.length = [(59 : UInt8)].length := rfl
            omega
          · rw [← List.append_assoc]
            exact h3
        · refine ⟨rfl, .inr ⟨preO_over (k := ([59] ++ os j).length) ?_ (by rw [Hf.out]; exact Nat.le_refl _) Hlt.out, rfl, Hb1.out.trans (hb2.trans hb3)⟩⟩
          have := a3
          have e : (⟨#[59]⟩ : ByteArray).data.toList.length = [(59 : UInt8)].length := rfl
          simp only [List.length_append] at this ⊢
          omega
        · exact ⟨rfl, .inr ⟨preO_over a2 (by rw [Hf.out]; show 1 ≤ _; rw [List.length_append]; exact Nat.le_add_right _ _) Hlt.out, rfl, Hb1.out.trans hb2⟩⟩
    · obtain rfl : j = n := by omega
      have hjz : ((j : Int) < (j : Int)) = False := eq_false (by omega)
      go_wp2_with fail
      go_end0
      exact .inl ⟨hlj, rfl, h1, hbw, hkw⟩
end Go.Proofs.YtkeibmkcgnppeaaGreatDoor

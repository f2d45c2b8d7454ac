/- The writer s term at leaves and calls; an array. -/
import Derived.Test.YtkeibmkcgnppeaaGreatDoorZPt
import Derived.Test.YtkeibmkcgnppeaaGreatDoorZPu
import Derived.Test.YtkeibmkcgnppeaaGreatDoorZPy
import Derived.Test.YtkeibmkcgnppeaaGreatDoorZFd
set_option maxHeartbeats 32000000
set_option linter.unusedSimpArgs false
set_option linter.unusedVariables false
namespace Go.Proofs.YtkeibmkcgnppeaaGreatDoor
open Go Go.RowKit
set_option maxRecDepth 100000
theorem errT_size (k : Int) : (errT k).size ≤ 4294967296 := by
  unfold errT
  repeat' split
  all_goals decide
theorem WrIs.keep {B b : Nat} {l : List UInt8} {w w' : World} (h : WrIs B b l w) (hb : Below w.heap.size w w') : WrIs B b l w' := wr_same h hb.block
theorem kept_below {b : Nat} {w w' : World} (hb : Below w.heap.size w w') : Lib.OthersKept 5 (some b) w w' := fun k o hk _ _ => (hb.block k (lt_of_some hk)).trans hk
theorem WrPost.quiet {B b : Nat} {l o : List UInt8} {w w1 w' : World} {e : Ending} (hBw : B ≤ w.heap.size) (hb : Below w.heap.size w w1) (h : WrPost B b l o w1 e w') : WrPost B b l o w e w' := WrPost.from (hb.mono hBw) (kept_below hb) h
theorem tout_8 {W : World} {t : TermD} (hop : t.s.op = 8) : TermOut W t [] := by
  intro x hx B b l w hB hBw h hl hw
  have hs := hx.s
  have HB := Lib.hid hB
  have Hl := Lib.hid hl
  have Hw := Lib.hid hw
  have hbl := WrIs.lt h
  obtain ⟨s, p, n, m⟩ := x
  simp only at hs ⊢
  subst hs
  have hA1 := Scal.arr_size t.s (.slice p n m)
  go_enter Tryz.func37, Tryz.ntmps37
  go_upto_region 1 with fail
  generalize hW1 : World.alloc w _ = W1
  have hbc : Below B w W1 := by rw [← hW1]; exact (Below.refl _ _).alloc hBw _
  have hC : W1.heap[w.heap.size]? = some (.cells (t.s.row (.slice p n m)).toArray 29 (0, 0)) := by rw [← hW1]; exact heap_alloc_new _ _
  have h1 : WrIs B b l W1 := by rw [← hW1]; exact WrIs.alloc h _
  have hk1 : Lib.OthersKept 5 (some b) w W1 := by rw [← hW1]; exact (Lib.OthersKept.refl _ _ _).alloc _
  have hlc : Ck.Later W W1 := later_B hw hB hbc
  have HX := Lib.hid hx
  clear hW1 h hx hB hl hw
  obtain ⟨x0, x1, x2, x3, x4, x5, x6, x7, x8, x9, x10, x11, x12, x13, x14, x15, x16, x17, x18⟩ := block_all hC
  rw [hop] at x0
  have Hop := Lib.hid hop
  have HC := Lib.hid hC
  have Hbc := Lib.hid hbc
  have H1 := Lib.hid h1
  have Hk1 := Lib.hid hk1
  have Hlc := Lib.hid hlc
  have hne : w.heap.size ≠ b := by omega
  have hs1 := hbc.size
  have hB1 := Nat.le_trans hBw hs1
  clear hop hC hbc h1 hk1 hlc
  clear x1 x2 x3 x4 x5 x6 x7 x8 x9 x10 x11 x12 x13 x14 x15 x16 x17 x18
  go_wp2_with fail
  go_end0
  exact WrPost.from Hbc.out Hk1.out (.inl ⟨by have := Hl.out; simpa using this, rfl, by rw [List.append_nil]; exact H1.out, Below.refl _ _, Lib.OthersKept.refl _ _ _⟩)
theorem tout_5 {W : World} {t : TermD} (hnm : ∀ s : Scal, s.OK → s.nm.size ≤ 4294967296) (hop : t.s.op = 5) : TermOut W t t.s.nm.data.toList := by
  intro x hx B b l w hB hBw h hl hw
  have hs := hx.s
  have HB := Lib.hid hB
  have Hl := Lib.hid hl
  have Hw := Lib.hid hw
  have hbl := WrIs.lt h
  have hsz := hnm _ hx.ok
  rw [← hs] at hsz
  obtain ⟨s, p, n, m⟩ := x
  simp only at hs ⊢
  subst hs
  have hA1 := Scal.arr_size t.s (.slice p n m)
  go_enter Tryz.func37, Tryz.ntmps37
  go_upto_region 1 with fail
  generalize hW1 : World.alloc w _ = W1
  have hbc : Below B w W1 := by rw [← hW1]; exact (Below.refl _ _).alloc hBw _
  have hC : W1.heap[w.heap.size]? = some (.cells (t.s.row (.slice p n m)).toArray 29 (0, 0)) := by rw [← hW1]; exact heap_alloc_new _ _
  have h1 : WrIs B b l W1 := by rw [← hW1]; exact WrIs.alloc h _
  have hk1 : Lib.OthersKept 5 (some b) w W1 := by rw [← hW1]; exact (Lib.OthersKept.refl _ _ _).alloc _
  have hlc : Ck.Later W W1 := later_B hw hB hbc
  have HX := Lib.hid hx
  clear hW1 h hx hB hl hw
  obtain ⟨x0, x1, x2, x3, x4, x5, x6, x7, x8, x9, x10, x11, x12, x13, x14, x15, x16, x17, x18⟩ := block_all hC
  rw [hop] at x0
  have Hop := Lib.hid hop
  have HC := Lib.hid hC
  have Hbc := Lib.hid hbc
  have H1 := Lib.hid h1
  have Hk1 := Lib.hid hk1
  have Hlc := Lib.hid hlc
  have hne : w.heap.size ≠ b := by omega
  have hs1 := hbc.size
  have hB1 := Nat.le_trans hBw hs1
  clear hop hC hbc h1 hk1 hlc
  clear x1 x2 x3 x5 x6 x7 x8 x9 x10 x11 x12 x13 x14 x15 x16 x17 x18
  go_wp2_with (first
    | (go_at_call 75; refine (put_call B b l t.s.nm W1 H1.out Hl.out (by exact hsz) hB1).mono ?_; rintro e w5 (⟨a5, rfl, h5, hb5, hk5⟩ | ⟨a5, rfl, hb5⟩)))
  · go_end0
    exact WrPost.from Hbc.out Hk1.out (.inl ⟨a5, rfl, h5, hb5, hk5⟩)
  · exact ⟨rfl, WrPost.from Hbc.out Hk1.out (.inr ⟨a5, rfl, hb5⟩)⟩
theorem tout_3 {W : World} {t : TermD} (hop : t.s.op = 3) : TermOut W t (errT t.s.er).data.toList := by
  intro x hx B b l w hB hBw h hl hw
  have hs := hx.s
  have HB := Lib.hid hB
  have Hl := Lib.hid hl
  have Hw := Lib.hid hw
  have hbl := WrIs.lt h
  obtain ⟨s, p, n, m⟩ := x
  simp only at hs ⊢
  subst hs
  have hA1 := Scal.arr_size t.s (.slice p n m)
  go_enter Tryz.func37, Tryz.ntmps37
  go_upto_region 1 with fail
  generalize hW1 : World.alloc w _ = W1
  have hbc : Below B w W1 := by rw [← hW1]; exact (Below.refl _ _).alloc hBw _
  have hC : W1.heap[w.heap.size]? = some (.cells (t.s.row (.slice p n m)).toArray 29 (0, 0)) := by rw [← hW1]; exact heap_alloc_new _ _
  have h1 : WrIs B b l W1 := by rw [← hW1]; exact WrIs.alloc h _
  have hk1 : Lib.OthersKept 5 (some b) w W1 := by rw [← hW1]; exact (Lib.OthersKept.refl _ _ _).alloc _
  have hlc : Ck.Later W W1 := later_B hw hB hbc
  have HX := Lib.hid hx
  clear hW1 h hx hB hl hw
  obtain ⟨x0, x1, x2, x3, x4, x5, x6, x7, x8, x9, x10, x11, x12, x13, x14, x15, x16, x17, x18⟩ := block_all hC
  rw [hop] at x0
  have Hop := Lib.hid hop
  have HC := Lib.hid hC
  have Hbc := Lib.hid hbc
  have H1 := Lib.hid h1
  have Hk1 := Lib.hid hk1
  have Hlc := Lib.hid hlc
  have hne : w.heap.size ≠ b := by omega
  have hs1 := hbc.size
  have hB1 := Nat.le_trans hBw hs1
  clear hop hC hbc h1 hk1 hlc
  clear x1 x2 x4 x5 x6 x7 x8 x9 x10 x11 x12 x13 x14 x15 x16 x17 x18
  go_wp2_with (first
    | (go_at_call 75; refine (put_call B b l (errT t.s.er) w2 (WrIs.keep H1.out hb2) Hl.out (by exact errT_size _) (Nat.le_trans hB1 hb2.size)).mono ?_; rintro e w5 (⟨a5, rfl, h5, hb5, hk5⟩ | ⟨a5, rfl, hb5⟩))
    | (go_at_call 77; refine (err_call t.s.er W1).mono ?_; rintro e w2 ⟨rfl, hb2⟩))
  · go_end0
    exact WrPost.from Hbc.out Hk1.out (WrPost.quiet hB1 hb2 (.inl ⟨a5, rfl, h5, hb5, hk5⟩))
  · exact ⟨rfl, WrPost.from Hbc.out Hk1.out (WrPost.quiet hB1 hb2 (.inr ⟨a5, rfl, hb5⟩))⟩
theorem tout_1 {W : World} {t : TermD} {tx : ByteArray} (htx : tx.size ≤ 600) (cT : ∀ w, Ck.Later W w → Calls Tryz.prog 48 #[.float .f64 t.s.num] w fun o w' => o = .returned (.tuple #[.string tx, .int .i64 0]) ∧ Below w.heap.size w w') (hop : t.s.op = 1) : TermOut W t tx.data.toList := by
  intro x hx B b l w hB hBw h hl hw
  have hs := hx.s
  have HB := Lib.hid hB
  have Hl := Lib.hid hl
  have Hw := Lib.hid hw
  have hbl := WrIs.lt h
  have HcT := Lib.hid cT
  clear cT
  obtain ⟨s, p, n, m⟩ := x
  simp only at hs ⊢
  subst hs
  have hA1 := Scal.arr_size t.s (.slice p n m)
  go_enter Tryz.func37, Tryz.ntmps37
  go_upto_region 1 with fail
  generalize hW1 : World.alloc w _ = W1
  have hbc : Below B w W1 := by rw [← hW1]; exact (Below.refl _ _).alloc hBw _
  have hC : W1.heap[w.heap.size]? = some (.cells (t.s.row (.slice p n m)).toArray 29 (0, 0)) := by rw [← hW1]; exact heap_alloc_new _ _
  have h1 : WrIs B b l W1 := by rw [← hW1]; exact WrIs.alloc h _
  have hk1 : Lib.OthersKept 5 (some b) w W1 := by rw [← hW1]; exact (Lib.OthersKept.refl _ _ _).alloc _
  have hlc : Ck.Later W W1 := later_B hw hB hbc
  have HX := Lib.hid hx
  clear hW1 h hx hB hl hw
  obtain ⟨x0, x1, x2, x3, x4, x5, x6, x7, x8, x9, x10, x11, x12, x13, x14, x15, x16, x17, x18⟩ := block_all hC
  rw [hop] at x0
  have Hop := Lib.hid hop
  have HC := Lib.hid hC
  have Hbc := Lib.hid hbc
  have H1 := Lib.hid h1
  have Hk1 := Lib.hid hk1
  have Hlc := Lib.hid hlc
  have hne : w.heap.size ≠ b := by omega
  have hs1 := hbc.size
  have hB1 := Nat.le_trans hBw hs1
  clear hop hC hbc h1 hk1 hlc
  clear x2 x3 x4 x5 x6 x7 x8 x9 x10 x11 x12 x13 x14 x15 x16 x17 x18
  go_wp2_with (first
    | (go_at_call 75; refine (put_call B b l tx w2 (WrIs.keep H1.out hb2) Hl.out (by omega) (Nat.le_trans hB1 hb2.size)).mono ?_; rintro e w5 (⟨a5, rfl, h5, hb5, hk5⟩ | ⟨a5, rfl, hb5⟩))
    | (go_at_call 48; refine (HcT.out W1 Hlc.out).mono ?_; rintro e w2 ⟨rfl, hb2⟩))
  · go_end0
    exact WrPost.from Hbc.out Hk1.out (WrPost.quiet hB1 hb2 (.inl ⟨a5, rfl, h5, hb5, hk5⟩))
  · exact ⟨rfl, WrPost.from Hbc.out Hk1.out (WrPost.quiet hB1 hb2 (.inr ⟨a5, rfl, hb5⟩))⟩
theorem tout_2 {W : World} {t : TermD} {tx : ByteArray} {k : Int} (htx : tx.size ≤ 4194304) (cT : ∀ w, Ck.Later W w → Calls Tryz.prog 76 #[.string t.s.tx] w fun o w' => o = .returned (.tuple #[.string tx, .int .i64 k]) ∧ Below w.heap.size w w') (hop : t.s.op = 2) : TermOut W t tx.data.toList := by
  intro x hx B b l w hB hBw h hl hw
  have hs := hx.s
  have HB := Lib.hid hB
  have Hl := Lib.hid hl
  have Hw := Lib.hid hw
  have hbl := WrIs.lt h
  have HcT := Lib.hid cT
  clear cT
  obtain ⟨s, p, n, m⟩ := x
  simp only at hs ⊢
  subst hs
  have hA1 := Scal.arr_size t.s (.slice p n m)
  go_enter Tryz.func37, Tryz.ntmps37
  go_upto_region 1 with fail
  generalize hW1 : World.alloc w _ = W1
  have hbc : Below B w W1 := by rw [← hW1]; exact (Below.refl _ _).alloc hBw _
  have hC : W1.heap[w.heap.size]? = some (.cells (t.s.row (.slice p n m)).toArray 29 (0, 0)) := by rw [← hW1]; exact heap_alloc_new _ _
  have h1 : WrIs B b l W1 := by rw [← hW1]; exact WrIs.alloc h _
  have hk1 : Lib.OthersKept 5 (some b) w W1 := by rw [← hW1]; exact (Lib.OthersKept.refl _ _ _).alloc _
  have hlc : Ck.Later W W1 := later_B hw hB hbc
  have HX := Lib.hid hx
  clear hW1 h hx hB hl hw
  obtain ⟨x0, x1, x2, x3, x4, x5, x6, x7, x8, x9, x10, x11, x12, x13, x14, x15, x16, x17, x18⟩ := block_all hC
  rw [hop] at x0
  have Hop := Lib.hid hop
  have HC := Lib.hid hC
  have Hbc := Lib.hid hbc
  have H1 := Lib.hid h1
  have Hk1 := Lib.hid hk1
  have Hlc := Lib.hid hlc
  have hne : w.heap.size ≠ b := by omega
  have hs1 := hbc.size
  have hB1 := Nat.le_trans hBw hs1
  clear hop hC hbc h1 hk1 hlc
  clear x1 x3 x4 x5 x6 x7 x8 x9 x10 x11 x12 x13 x14 x15 x16 x17 x18
  go_wp2_with (first
    | (go_at_call 75; refine (put_call B b l tx w2 (WrIs.keep H1.out hb2) Hl.out (by omega) (Nat.le_trans hB1 hb2.size)).mono ?_; rintro e w5 (⟨a5, rfl, h5, hb5, hk5⟩ | ⟨a5, rfl, hb5⟩))
    | (go_at_call 76; refine (HcT.out W1 Hlc.out).mono ?_; rintro e w2 ⟨rfl, hb2⟩))
  · go_end0
    exact WrPost.from Hbc.out Hk1.out (WrPost.quiet hB1 hb2 (.inl ⟨a5, rfl, h5, hb5, hk5⟩))
  · exact ⟨rfl, WrPost.from Hbc.out Hk1.out (WrPost.quiet hB1 hb2 (.inr ⟨a5, rfl, hb5⟩))⟩
theorem tout_4 {W : World} {t : TermD} {tx u : ByteArray} {k : Int} (htx : tx.size ≤ 4194304) (hu : (({ data := #[91] } ++ tx : ByteArray) ++ { data := #[93] }) = u) (hus : u.size ≤ 4294967296) (cT : ∀ w, Ck.Later W w → Calls Tryz.prog 78 #[.agg t.s.ref.toArray] w fun o w' => o = .returned (.tuple #[.string tx, .int .i64 k]) ∧ Below w.heap.size w w') (hop : t.s.op = 4) : TermOut W t u.data.toList := by
  intro x hx B b l w hB hBw h hl hw
  have hs := hx.s
  have HB := Lib.hid hB
  have Hl := Lib.hid hl
  have Hw := Lib.hid hw
  have hbl := WrIs.lt h
  have HcT := Lib.hid cT
  clear cT
  have q1 : ¬ 9223372036854775807 < 1 + tx.size := by omega
  have q2 : ¬ 9223372036854775807 < 1 + tx.size + 1 := by omega
  obtain ⟨s, p, n, m⟩ := x
  simp only at hs ⊢
  subst hs
  have hA1 := Scal.arr_size t.s (.slice p n m)
  go_enter Tryz.func37, Tryz.ntmps37
  go_upto_region 1 with fail
  generalize hW1 : World.alloc w _ = W1
  have hbc : Below B w W1 := by rw [← hW1]; exact (Below.refl _ _).alloc hBw _
  have hC : W1.heap[w.heap.size]? = some (.cells (t.s.row (.slice p n m)).toArray 29 (0, 0)) := by rw [← hW1]; exact heap_alloc_new _ _
  have h1 : WrIs B b l W1 := by rw [← hW1]; exact WrIs.alloc h _
  have hk1 : Lib.OthersKept 5 (some b) w W1 := by rw [← hW1]; exact (Lib.OthersKept.refl _ _ _).alloc _
  have hlc : Ck.Later W W1 := later_B hw hB hbc
  have HX := Lib.hid hx
  clear hW1 h hx hB hl hw
  obtain ⟨x0, x1, x2, x3, x4, x5, x6, x7, x8, x9, x10, x11, x12, x13, x14, x15, x16, x17, x18⟩ := block_all hC
  rw [hop] at x0
  have Hop := Lib.hid hop
  have HC := Lib.hid hC
  have Hbc := Lib.hid hbc
  have H1 := Lib.hid h1
  have Hk1 := Lib.hid hk1
  have Hlc := Lib.hid hlc
  have hne : w.heap.size ≠ b := by omega
  have hs1 := hbc.size
  have hB1 := Nat.le_trans hBw hs1
  clear hop hC hbc h1 hk1 hlc
  clear x1 x2 x3 x4 x5 x6 x7 x8 x9 x10 x11 x12 x13 x14 x15 x16 x17 x18
  go_wp2_with (first
    | (go_at_call 75; refine (put_call B b l u w2 (WrIs.keep H1.out hb2) Hl.out (by exact hus) (Nat.le_trans hB1 hb2.size)).mono ?_; rintro e w5 (⟨a5, rfl, h5, hb5, hk5⟩ | ⟨a5, rfl, hb5⟩))
    | (go_at_call 78; refine (HcT.out W1 Hlc.out).mono ?_; rintro e w2 ⟨rfl, hb2⟩)
    | (refine wpList_load_mid rfl 26 _ rfl w.heap.size 5 rfl t.s.ref _ (ref_range HC.out (Below.refl _ _)) Tryz.underlying26 rfl size26 ?_))
  · go_end0
    exact WrPost.from Hbc.out Hk1.out (WrPost.quiet hB1 hb2 (.inl ⟨a5, rfl, h5, hb5, hk5⟩))
  · exact ⟨rfl, WrPost.from Hbc.out Hk1.out (WrPost.quiet hB1 hb2 (.inr ⟨a5, rfl, hb5⟩))⟩
theorem tout_6 {W : World} {t : TermD} {u : ByteArray} (hu : (t.s.nm ++ { data := #[40] } : ByteArray) = u) (hus : u.size ≤ 1048600) (hnm : t.s.nm.size ≤ 1048576) {os : Nat → List UInt8} (hos : ∀ i (h : i < t.args.length), TermOut W t.args[i] (os i)) (hop : t.s.op = 6) : TermOut W t (u.data.toList ++ (preO (listO os) t.args.length ++ [41])) := by
  intro x hx B b l w hB hBw h hl hw
  have hs := hx.s
  have HB := Lib.hid hB
  have Hl := Lib.hid hl
  have Hw := Lib.hid hw
  have hbl := WrIs.lt h
  rw [← hx.n]
  have Hos := Lib.hid hos
  clear hos
  have q1 : ¬ 9223372036854775807 < t.s.nm.size + 1 := by omega
  have hus : u.size ≤ 4294967296 := by omega
  obtain ⟨s, p, n, m⟩ := x
  simp only at hs ⊢
  subst hs
  have hA1 := Scal.arr_size t.s (.slice p n m)
  go_enter Tryz.func37, Tryz.ntmps37
  go_upto_region 1 with fail
  generalize hW1 : World.alloc w _ = W1
  have hbc : Below B w W1 := by rw [← hW1]; exact (Below.refl _ _).alloc hBw _
  have hC : W1.heap[w.heap.size]? = some (.cells (t.s.row (.slice p n m)).toArray 29 (0, 0)) := by rw [← hW1]; exact heap_alloc_new _ _
  have h1 : WrIs B b l W1 := by rw [← hW1]; exact WrIs.alloc h _
  have hk1 : Lib.OthersKept 5 (some b) w W1 := by rw [← hW1]; exact (Lib.OthersKept.refl _ _ _).alloc _
  have hlc : Ck.Later W W1 := later_B hw hB hbc
  have HX := Lib.hid hx
  clear hW1 h hx hB hl hw
  obtain ⟨x0, x1, x2, x3, x4, x5, x6, x7, x8, x9, x10, x11, x12, x13, x14, x15, x16, x17, x18⟩ := block_all hC
  rw [hop] at x0
  have Hop := Lib.hid hop
  have HC := Lib.hid hC
  have Hbc := Lib.hid hbc
  have H1 := Lib.hid h1
  have Hk1 := Lib.hid hk1
  have Hlc := Lib.hid hlc
  have hne : w.heap.size ≠ b := by omega
  have hs1 := hbc.size
  have hB1 := Nat.le_trans hBw hs1
  clear hop hC hbc h1 hk1 hlc
  clear x1 x2 x3 x5 x6 x7 x8 x9 x10 x11 x12 x13 x14 x15 x16 x17 x18
  go_wp2_with (first
    | (go_at_call 75; refine (put_call B b ((l ++ u.data.toList) ++ preO (listO os) n) ⟨#[41]⟩ w6 h6 (by rw [List.length_append]; exact a6) (by decide) (Nat.le_trans hB1 (Nat.le_trans hb5.size hb6.size))).mono ?_; rintro e w7 (⟨a7, rfl, h7, hb7, hk7⟩ | ⟨a7, rfl, hb7⟩))
    | (go_at_call 79; refine (wlist_call HX.out os Hos.out B b (l ++ u.data.toList) w5 HB.out (Nat.le_trans hB1 hb5.size) h5 (by rw [List.length_append]; exact a5) (later_B Hlc.out HB.out hb5)).mono ?_; rintro e w6 (⟨a6, rfl, h6, hb6, hk6⟩ | ⟨a6, rfl, hb6⟩))
    | (go_at_call 75; refine (put_call B b l u W1 H1.out Hl.out (by exact hus) hB1).mono ?_; rintro e w5 (⟨a5, rfl, h5, hb5, hk5⟩ | ⟨a5, rfl, hb5⟩); have x18b := block18 (box_kept hk5 HC.out hne)))
  · go_end0
    exact WrPost.from Hbc.out Hk1.out (WrPost.next a5 hb5 hk5 (WrPost.next a6 hb6 hk6 (.inl ⟨a7, rfl, h7, hb7, hk7⟩)))
  · exact ⟨rfl, WrPost.from Hbc.out Hk1.out (WrPost.next a5 hb5 hk5 (WrPost.next a6 hb6 hk6 (.inr ⟨a7, rfl, hb7⟩)))⟩
  · exact ⟨rfl, WrPost.from Hbc.out Hk1.out (WrPost.next a5 hb5 hk5 (WrPost.more ⟨a6, rfl, hb6⟩))⟩
  · exact ⟨rfl, WrPost.from Hbc.out Hk1.out (WrPost.more ⟨a5, rfl, hb5⟩)⟩
open Go Go.RowKit
set_option maxRecDepth 100000
def sepO (wd : Int) (i : Nat) : List UInt8 := if i = 0 then [123] else if (i : Int) % wd = 0 then [124] else [59]
def arrO (wd : Int) (os : Nat → List UInt8) (i : Nat) : List UInt8 := sepO wd i ++ os i
theorem warray_call {W : World} {x : RV} {t : TermD} (hx : x.Is W t) (wd : Int) (hrw : 1 ≤ x.s.rw) (hwd : wrap64 ((x.n : Int) / x.s.rw) = wd) (hw0 : 1 ≤ wd) (os : Nat → List UInt8)
    (hos : ∀ i (h : i < t.args.length), (t.args[i].s.op = 6 ∧ t.args[i].s.nm.data.toList = os i ∧ t.args[i].s.nm.size ≤ 1048576) ∨ ((t.args[i].s.op == (6 : Int)) = false ∧ TermOut W t.args[i] (os i))) (B b : Nat) (l : List UInt8) (w : World) (hB : W.heap.size ≤ B) (hBw : B ≤ w.heap.size) (h : WrIs B b l w) (hl : l.length ≤ 16384) (hw : Ck.Later W w) :
    Calls Tryz.prog 80 #[.pointer (some ⟨b, 0, none⟩), .agg (x.s.arr (.slice x.p x.n x.m))] w (WrPost B b l (preO (arrO wd os) x.n ++ [125]) w) := by
  have hkid := fun j hj => RV.Is.kid hx (j := j) hj
  have hn := hx.n
  have hlen := hx.len
  have Hkid := Lib.hid hkid
  have Hos := Lib.hid hos
  have HB := Lib.hid hB
  have H := Lib.hid h
  have Hl := Lib.hid hl
  have Hw := Lib.hid hw
  have hbl := WrIs.lt h
  obtain ⟨s, p, n, m⟩ := x
  simp only at hn hlen Hkid hrw hwd ⊢
  have Hn := Lib.hid hn
  have hA1 := Scal.arr_size s (.slice p n m)
  obtain ⟨rw0, hrw0⟩ : ∃ r, s.rw = r := ⟨_, rfl⟩
  rw [hrw0] at hrw hwd
  have Hrw := Lib.hid hrw0
  have hnz : (rw0 == 0) = false := by rw [beq_eq_false_iff_ne]; omega
  have hwz : (wd == 0) = false := by rw [beq_eq_false_iff_ne]; omega
  have Hwd := Lib.hid hwd
  clear hkid hos hB h hl hw hx hn hwd hrw0
  go_enter Tryz.func80, Tryz.ntmps80
  go_upto_region 1 with fail
  generalize hW1 : World.alloc w _ = W1
  have hbc : Below B w W1 := by rw [← hW1]; exact (Below.refl _ _).alloc hBw _
  have hC : W1.heap[w.heap.size]? = some (.cells (s.row (.slice p n m)).toArray 29 (0, 0)) := by rw [← hW1]; exact heap_alloc_new _ _
  have h1 : WrIs B b l W1 := by rw [← hW1]; exact WrIs.alloc H.out _
  have hk1 : Lib.OthersKept 5 (some b) w W1 := by rw [← hW1]; exact (Lib.OthersKept.refl _ _ _).alloc _
  clear hW1
  obtain ⟨-, -, -, -, -, -, -, -, -, -, -, -, -, -, -, -, -, x17, x18⟩ := block_all hC
  rw [Hrw.out] at x17
  have Hbc := Lib.hid hbc
  have H1 := Lib.hid h1
  have Hk1 := Lib.hid hk1
  have hne : w.heap.size ≠ b := by omega
  have hs1 := hbc.size
  clear hC hbc h1 hk1
  go_upto_region 2 with fail
  clear x17
  rw [Hwd.out]
  go_wp2_with fail
  clear x18
  go_loopw [16] (fun i wr => ∃ j : Nat, i = .int .i64 j ∧ j ≤ n ∧ l.length + (preO (arrO wd os) j).length ≤ 16384 ∧ WrIs B b (l ++ preO (arrO wd os) j) wr ∧ Below B w wr ∧ Lib.OthersKept 5 (some b) w wr) (fun i _ => n - (intOf i).toNat)
  case atStart => exact ⟨0, rfl, Nat.zero_le _, by have := Hl.out; simpa [preO] using this, by have := H1.out; simpa [preO] using this, Hbc.out, Hk1.out⟩
  case round =>
    obtain ⟨j, rfl, hj, hlj, h1, hbw, hkw⟩ := hrel
    rcases Nat.lt_or_ge j n with hlt | hge
    · have hja : j < t.args.length := by rw [← Hn.out]; exact hlt
      obtain ⟨g, o, y, hpo, hy, hcl⟩ := Hkid.out j hja
      subst hpo
      have hC := hcl wr (later_B Hw.out HB.out hbw)
      have hys := hy.s
      have HO : (y.s.op = 6 ∧ y.s.nm.data.toList = os j ∧ y.s.nm.size ≤ 1048576) ∨ ((y.s.op == (6 : Int)) = false ∧ Hid (∀ l' w', B ≤ w'.heap.size → WrIs B b l' w' → l'.length ≤ 16384 → Ck.Later W w' → Calls Tryz.prog 37 #[.pointer (some ⟨b, 0, none⟩), .agg (y.s.arr (.slice y.p y.n y.m))] w' (WrPost B b l' (os j) w'))) := by
        rcases Hos.out j hja with hq | hq
        · exact .inl (by rw [hys] at *; exact hq)
        · exact .inr ⟨by rw [hys] at *; exact hq.1, Lib.hid (fun l' w' => hq.2 y hy B b l' w' HB.out)⟩
      clear hys
      obtain ⟨ys, yp, yn, ym⟩ := y
      simp only at hC HO
      have hbl := WrIs.lt h1
      have HC := Lib.hid hC
      have H1 := Lib.hid h1
      have Hbw := Lib.hid hbw
      have Hkw := Lib.hid hkw
      have Hlj := Lib.hid hlj
      have hsw := hbw.size
      have hjz : (j : Int) < (n : Int) := by omega
      have hj0 : (0 : Int) ≤ (j : Int) := by omega
      have hA2 := Scal.arr_size ys (.slice yp yn ym)
      have Hlt := Lib.hid hlt
      clear hC hcl hy h1 hbw hkw hlj
      have HO2 := Lib.hid HO
      clear HO
      go_upto_region 6 with (first
        | (refine wpList_load_mid rfl 29 _ rfl g (o + j * 19) rfl (ys.row (.slice yp yn ym)) _ HC.out Tryz.underlying29 rfl size29 ?_)
        | (refine wpList_store_row rfl 29 _ _ rfl wr.heap.size (ys.arr (.slice yp yn ym)) rfl rfl 29 zeroTerm (heap_alloc_new _ _) size29 rfl (Scal.arr_one _ _ _ _) ?_))
      generalize hW1 : World.setRow _ _ _ = W2
      have hC1 : W2.heap[wr.heap.size]? = some (.cells (ys.row (.slice yp yn ym)).toArray 29 (0, 0)) := by
        rw [← hW1]
        exact setRow_heap _ _ _ _ _ _ (heap_alloc_new _ _)
      have hs1 : wr.heap.size < W2.heap.size := lt_of_some hC1
      have hk1 : ∀ c, c < wr.heap.size → W2.heap[c]? = wr.heap[c]? := fun c hc => by rw [← hW1, setRow_far _ _ (by omega), heap_alloc_old _ _ hc]
      have hb1 : Below B w W2 := by
        rw [← hW1]
        exact below_setRow (Hbw.out.alloc (Nat.le_trans hBw hsw) _) (Nat.le_trans hBw hsw) _
      have ho1 : Lib.OthersKept 5 (some b) w W2 := fun k ob hk hkb hkk => by
        have h2 := Hkw.out k ob hk hkb hkk
        rw [hk1 k (lt_of_some h2)]
        exact h2
      have hw1 : WrIs B b (l ++ preO (arrO wd os) j) W2 := wr_same H1.out hk1
      clear hW1
      have HC1 := Lib.hid hC1
      have Hb1 := Lib.hid hb1
      have Ho1 := Lib.hid ho1
      have Hw1 := Lib.hid hw1
      have hne : wr.heap.size ≠ b := by omega
      clear hC1 hk1 hb1 ho1 hw1
      have hlen1 : (l ++ preO (arrO wd os) j).length ≤ 16384 := by rw [List.length_append]; exact Hlj.out
      have Hlen1 := Lib.hid hlen1
      clear hlen1
      rcases HO2.out with ⟨h6, hnm, hsz⟩ | ⟨h6, HO⟩
      · have H6 := Lib.hid h6
        have Hnm := Lib.hid hnm
        clear HO2 h6 hnm
        by_cases hj00 : j = 0
        · have hj1 : ((j : Int) == 0) = true := by rw [beq_iff_eq]; omega
          have Hf := Lib.hid (show arrO wd os j = [123] ++ os j by unfold arrO sepO; rw [if_pos hj00])
          clear hj00
          go_upto_region 10 with (go_at_call 75; refine (put_call B b (l ++ preO (arrO wd os) j) ⟨#[123]⟩ W2 Hw1.out Hlen1.out (by decide) (Nat.le_trans hBw (Nat.le_trans hsw (Nat.le_of_lt hs1)))).mono ?_; rintro e w2 (⟨a2, rfl, h2, hb2, hk2⟩ | ⟨a2, rfl, hb2⟩))
          rotate_left
          · exact ⟨rfl, .inr ⟨by have := preO_over (n := n) a2 (by rw [Hf.out]; show 1 ≤ _; rw [List.length_append]; exact Nat.le_add_right _ _) Hlt.out; rw [List.length_append]; omega, rfl, Hb1.out.trans hb2⟩⟩
          have HC3 := Lib.hid (box_kept hk2 HC1.out hne)
          obtain ⟨x0, -, -, -, x4, -⟩ := block_all HC3.out
          rw [H6.out] at x0
          go_wp2_with (go_at_call 75; refine (put_call B b ((l ++ preO (arrO wd os) j) ++ [123]) ys.nm w2 h2 (by rw [List.length_append]; exact a2) (by omega) (Nat.le_trans (Nat.le_trans hBw (Nat.le_trans hsw (Nat.le_of_lt hs1))) hb2.size)).mono ?_; rw [Hnm.out]; rintro e w3 (⟨a3, rfl, h3, hb3, hk3⟩ | ⟨a3, rfl, hb3⟩))
          · refine ⟨⟨j + 1, rfl, Hlt.out, preO_step Hf.out ?_, preO_is Hf.out ?_, Hb1.out.trans (hb2.trans hb3), Ho1.out.trans (hk2.trans hk3)⟩, by have := Hlt.out; simp only [intOf]; omega⟩
            · have := a3
              simp only [List.length_append] at this ⊢
              have e : [(123 : UInt8)].length = 1 := rfl
              omega
            · rw [← List.append_assoc]
              exact h3
          · refine ⟨rfl, .inr ⟨?_, rfl, Hb1.out.trans (hb2.trans hb3)⟩⟩
            have := preO_over (f := arrO wd os) (l := l) (j := j) (n := n) (k := ([123] ++ os j).length) (by have := a3; simp only [List.length_append] at this ⊢; have e : [(123 : UInt8)].length = 1 := rfl; omega) (by rw [Hf.out]; exact Nat.le_refl _) Hlt.out
            rw [List.length_append]
            omega
        · have hj1 : ((j : Int) == 0) = false := by rw [beq_eq_false_iff_ne]; omega
          by_cases hm0 : (j : Int) % wd = 0
          · have hm : ((j : Int) % wd == 0) = true := by rw [beq_iff_eq]; exact hm0
            have Hf := Lib.hid (show arrO wd os j = [124] ++ os j by unfold arrO sepO; rw [if_neg hj00, if_pos hm0])
            clear hj00 hm0
            go_upto_region 10 with (go_at_call 75; refine (put_call B b (l ++ preO (arrO wd os) j) ⟨#[124]⟩ W2 Hw1.out Hlen1.out (by decide) (Nat.le_trans hBw (Nat.le_trans hsw (Nat.le_of_lt hs1)))).mono ?_; rintro e w2 (⟨a2, rfl, h2, hb2, hk2⟩ | ⟨a2, rfl, hb2⟩))
            rotate_left
            · exact ⟨rfl, .inr ⟨by have := preO_over (n := n) a2 (by rw [Hf.out]; show 1 ≤ _; rw [List.length_append]; exact Nat.le_add_right _ _) Hlt.out; rw [List.length_append]; omega, rfl, Hb1.out.trans hb2⟩⟩
            have HC3 := Lib.hid (box_kept hk2 HC1.out hne)
            obtain ⟨x0, -, -, -, x4, -⟩ := block_all HC3.out
            rw [H6.out] at x0
            go_wp2_with (go_at_call 75; refine (put_call B b ((l ++ preO (arrO wd os) j) ++ [124]) ys.nm w2 h2 (by rw [List.length_append]; exact a2) (by omega) (Nat.le_trans (Nat.le_trans hBw (Nat.le_trans hsw (Nat.le_of_lt hs1))) hb2.size)).mono ?_; rw [Hnm.out]; rintro e w3 (⟨a3, rfl, h3, hb3, hk3⟩ | ⟨a3, rfl, hb3⟩))
            · refine ⟨⟨j + 1, rfl, Hlt.out, preO_step Hf.out ?_, preO_is Hf.out ?_, Hb1.out.trans (hb2.trans hb3), Ho1.out.trans (hk2.trans hk3)⟩, by have := Hlt.out; simp only [intOf]; omega⟩
              · have := a3
                simp only [List.length_append] at this ⊢
                have e : [(124 : UInt8)].length = 1 := rfl
                omega
              · rw [← List.append_assoc]
                exact h3
            · refine ⟨rfl, .inr ⟨?_, rfl, Hb1.out.trans (hb2.trans hb3)⟩⟩
              have := preO_over (f := arrO wd os) (l := l) (j := j) (n := n) (k := ([124] ++ os j).length) (by have := a3; simp only [List.length_append] at this ⊢; have e : [(124 : UInt8)].length = 1 := rfl; omega) (by rw [Hf.out]; exact Nat.le_refl _) Hlt.out
              rw [List.length_append]
              omega
          · have hm : ((j : Int) % wd == 0) = false := by rw [beq_eq_false_iff_ne]; exact hm0
            have Hf := Lib.hid (show arrO wd os j = [59] ++ os j by unfold arrO sepO; rw [if_neg hj00, if_neg hm0])
            clear hj00 hm0
            go_upto_region 10 with (go_at_call 75; refine (put_call B b (l ++ preO (arrO wd os) j) ⟨#[59]⟩ W2 Hw1.out Hlen1.out (by decide) (Nat.le_trans hBw (Nat.le_trans hsw (Nat.le_of_lt hs1)))).mono ?_; rintro e w2 (⟨a2, rfl, h2, hb2, hk2⟩ | ⟨a2, rfl, hb2⟩))
            rotate_left
            · exact ⟨rfl, .inr ⟨by have := preO_over (n := n) a2 (by rw [Hf.out]; show 1 ≤ _; rw [List.length_append]; exact Nat.le_add_right _ _) Hlt.out; rw [List.length_append]; omega, rfl, Hb1.out.trans hb2⟩⟩
            have HC3 := Lib.hid (box_kept hk2 HC1.out hne)
            obtain ⟨x0, -, -, -, x4, -⟩ := block_all HC3.out
            rw [H6.out] at x0
            go_wp2_with (go_at_call 75; refine (put_call B b ((l ++ preO (arrO wd os) j) ++ [59]) ys.nm w2 h2 (by rw [List.length_append]; exact a2) (by omega) (Nat.le_trans (Nat.le_trans hBw (Nat.le_trans hsw (Nat.le_of_lt hs1))) hb2.size)).mono ?_; rw [Hnm.out]; rintro e w3 (⟨a3, rfl, h3, hb3, hk3⟩ | ⟨a3, rfl, hb3⟩))
            · refine ⟨⟨j + 1, rfl, Hlt.out, preO_step Hf.out ?_, preO_is Hf.out ?_, Hb1.out.trans (hb2.trans hb3), Ho1.out.trans (hk2.trans hk3)⟩, by have := Hlt.out; simp only [intOf]; omega⟩
              · have := a3
                simp only [List.length_append] at this ⊢
                have e : [(59 : UInt8)].length = 1 := rfl
                omega
              · rw [← List.append_assoc]
                exact h3
            · refine ⟨rfl, .inr ⟨?_, rfl, Hb1.out.trans (hb2.trans hb3)⟩⟩
              have := preO_over (f := arrO wd os) (l := l) (j := j) (n := n) (k := ([59] ++ os j).length) (by have := a3; simp only [List.length_append] at this ⊢; have e : [(59 : UInt8)].length = 1 := rfl; omega) (by rw [Hf.out]; exact Nat.le_refl _) Hlt.out
              rw [List.length_append]
              omega
      · clear HO2
        by_cases hj00 : j = 0
        · have hj1 : ((j : Int) == 0) = true := by rw [beq_iff_eq]; omega
          have Hf := Lib.hid (show arrO wd os j = [123] ++ os j by unfold arrO sepO; rw [if_pos hj00])
          clear hj00
          go_upto_region 10 with (go_at_call 75; refine (put_call B b (l ++ preO (arrO wd os) j) ⟨#[123]⟩ W2 Hw1.out Hlen1.out (by decide) (Nat.le_trans hBw (Nat.le_trans hsw (Nat.le_of_lt hs1)))).mono ?_; rintro e w2 (⟨a2, rfl, h2, hb2, hk2⟩ | ⟨a2, rfl, hb2⟩))
          rotate_left
          · exact ⟨rfl, .inr ⟨by have := preO_over (n := n) a2 (by rw [Hf.out]; show 1 ≤ _; rw [List.length_append]; exact Nat.le_add_right _ _) Hlt.out; rw [List.length_append]; omega, rfl, Hb1.out.trans hb2⟩⟩
          have HC3 := Lib.hid (box_kept hk2 HC1.out hne)
          obtain ⟨x0, -, -, -, x4, -⟩ := block_all HC3.out
          go_wp2_with (first
            | (go_at_call 37; refine (HO.out ((l ++ preO (arrO wd os) j) ++ [123]) w2 (Nat.le_trans (Nat.le_trans hBw (Nat.le_trans hsw (Nat.le_of_lt hs1))) hb2.size) h2 (by rw [List.length_append]; exact a2) (later_B Hw.out HB.out (Hb1.out.trans hb2))).mono ?_; rintro e w3 (⟨a3, rfl, h3, hb3, hk3⟩ | ⟨a3, rfl, hb3⟩))
            | (refine wpList_load_row rfl 29 _ rfl wr.heap.size rfl 29 (ys.arr (.slice yp yn ym)) (0, 0) _ HC3.out Tryz.underlying29 rfl size29 ?_))
          · refine ⟨⟨j + 1, rfl, Hlt.out, preO_step Hf.out ?_, preO_is Hf.out ?_, Hb1.out.trans (hb2.trans hb3), Ho1.out.trans (hk2.trans hk3)⟩, by have := Hlt.out; simp only [intOf]; omega⟩
            · have := a3
              simp only [List.length_append] at this ⊢
              have e : [(123 : UInt8)].length = 1 := rfl
              omega
            · rw [← List.append_assoc]
              exact h3
          · refine ⟨rfl, .inr ⟨?_, rfl, Hb1.out.trans (hb2.trans hb3)⟩⟩
            have := preO_over (f := arrO wd os) (l := l) (j := j) (n := n) (k := ([123] ++ os j).length) (by have := a3; simp only [List.length_append] at this ⊢; have e : [(123 : UInt8)].length = 1 := rfl; omega) (by rw [Hf.out]; exact Nat.le_refl _) Hlt.out
            rw [List.length_append]
            omega
        · have hj1 : ((j : Int) == 0) = false := by rw [beq_eq_false_iff_ne]; omega
          by_cases hm0 : (j : Int) % wd = 0
          · have hm : ((j : Int) % wd == 0) = true := by rw [beq_iff_eq]; exact hm0
            have Hf := Lib.hid (show arrO wd os j = [124] ++ os j by unfold arrO sepO; rw [if_neg hj00, if_pos hm0])
            clear hj00 hm0
            go_upto_region 10 with (go_at_call 75; refine (put_call B b (l ++ preO (arrO wd os) j) ⟨#[124]⟩ W2 Hw1.out Hlen1.out (by decide) (Nat.le_trans hBw (Nat.le_trans hsw (Nat.le_of_lt hs1)))).mono ?_; rintro e w2 (⟨a2, rfl, h2, hb2, hk2⟩ | ⟨a2, rfl, hb2⟩))
            rotate_left
            · exact ⟨rfl, .inr ⟨by have := preO_over (n := n) a2 (by rw [Hf.out]; show 1 ≤ _; rw [List.length_append]; exact Nat.le_add_right _ _) Hlt.out; rw [List.length_append]; omega, rfl, Hb1.out.trans hb2⟩⟩
            have HC3 := Lib.hid (box_kept hk2 HC1.out hne)
            obtain ⟨x0, -, -, -, x4, -⟩ := block_all HC3.out
            go_wp2_with (first
              | (go_at_call 37; refine (HO.out ((l ++ preO (arrO wd os) j) ++ [124]) w2 (Nat.le_trans (Nat.le_trans hBw (Nat.le_trans hsw (Nat.le_of_lt hs1))) hb2.size) h2 (by rw [List.length_append]; exact a2) (later_B Hw.out HB.out (Hb1.out.trans hb2))).mono ?_; rintro e w3 (⟨a3, rfl, h3, hb3, hk3⟩ | ⟨a3, rfl, hb3⟩))
              | (refine wpList_load_row rfl 29 _ rfl wr.heap.size rfl 29 (ys.arr (.slice yp yn ym)) (0, 0) _ HC3.out Tryz.underlying29 rfl size29 ?_))
            · refine ⟨⟨j + 1, rfl, Hlt.out, preO_step Hf.out ?_, preO_is Hf.out ?_, Hb1.out.trans (hb2.trans hb3), Ho1.out.trans (hk2.trans hk3)⟩, by have := Hlt.out; simp only [intOf]; omega⟩
              · have := a3
                simp only [List.length_append] at this ⊢
                have e : [(124 : UInt8)].length = 1 := rfl
                omega
              · rw [← List.append_assoc]
                exact h3
            · refine ⟨rfl, .inr ⟨?_, rfl, Hb1.out.trans (hb2.trans hb3)⟩⟩
              have := preO_over (f := arrO wd os) (l := l) (j := j) (n := n) (k := ([124] ++ os j).length) (by have := a3; simp only [List.length_append] at this ⊢; have e : [(124 : UInt8)].length = 1 := rfl; omega) (by rw [Hf.out]; exact Nat.le_refl _) Hlt.out
              rw [List.length_append]
              omega
          · have hm : ((j : Int) % wd == 0) = false := by rw [beq_eq_false_iff_ne]; exact hm0
            have Hf := Lib.hid (show arrO wd os j = [59] ++ os j by unfold arrO sepO; rw [if_neg hj00, if_neg hm0])
            clear hj00 hm0
            go_upto_region 10 with (go_at_call 75; refine (put_call B b (l ++ preO (arrO wd os) j) ⟨#[59]⟩ W2 Hw1.out Hlen1.out (by decide) (Nat.le_trans hBw (Nat.le_trans hsw (Nat.le_of_lt hs1)))).mono ?_; rintro e w2 (⟨a2, rfl, h2, hb2, hk2⟩ | ⟨a2, rfl, hb2⟩))
            rotate_left
            · exact ⟨rfl, .inr ⟨by have := preO_over (n := n) a2 (by rw [Hf.out]; show 1 ≤ _; rw [List.length_append]; exact Nat.le_add_right _ _) Hlt.out; rw [List.length_append]; omega, rfl, Hb1.out.trans hb2⟩⟩
            have HC3 := Lib.hid (box_kept hk2 HC1.out hne)
            obtain ⟨x0, -, -, -, x4, -⟩ := block_all HC3.out
            go_wp2_with (first
              | (go_at_call 37; refine (HO.out ((l ++ preO (arrO wd os) j) ++ [59]) w2 (Nat.le_trans (Nat.le_trans hBw (Nat.le_trans hsw (Nat.le_of_lt hs1))) hb2.size) h2 (by rw [List.length_append]; exact a2) (later_B Hw.out HB.out (Hb1.out.trans hb2))).mono ?_; rintro e w3 (⟨a3, rfl, h3, hb3, hk3⟩ | ⟨a3, rfl, hb3⟩))
              | (refine wpList_load_row rfl 29 _ rfl wr.heap.size rfl 29 (ys.arr (.slice yp yn ym)) (0, 0) _ HC3.out Tryz.underlying29 rfl size29 ?_))
            · refine ⟨⟨j + 1, rfl, Hlt.out, preO_step Hf.out ?_, preO_is Hf.out ?_, Hb1.out.trans (hb2.trans hb3), Ho1.out.trans (hk2.trans hk3)⟩, by have := Hlt.out; simp only [intOf]; omega⟩
              · have := a3
                simp only [List.length_append] at this ⊢
                have e : [(59 : UInt8)].length = 1 := rfl
                omega
              · rw [← List.append_assoc]
                exact h3
            · refine ⟨rfl, .inr ⟨?_, rfl, Hb1.out.trans (hb2.trans hb3)⟩⟩
              have := preO_over (f := arrO wd os) (l := l) (j := j) (n := n) (k := ([59] ++ os j).length) (by have := a3; simp only [List.length_append] at this ⊢; have e : [(59 : UInt8)].length = 1 := rfl; omega) (by rw [Hf.out]; exact Nat.le_refl _) Hlt.out
              rw [List.length_append]
              omega
    · obtain rfl : j = n := by omega
      have hjz : ((j : Int) < (j : Int)) = False := eq_false (by omega)
      have Hw9 := Lib.hid h1
      have hlen9 : (l ++ preO (arrO wd os) j).length ≤ 16384 := by rw [List.length_append]; exact hlj
      have Hlen9 := Lib.hid hlen9
      have Hb9 := Lib.hid hbw
      have Hk9 := Lib.hid hkw
      have Hlj := Lib.hid hlj
      have hsw := hbw.size
      clear h1 hlen9 hbw hkw hlj
      go_wp2_with (go_at_call 75; refine (put_call B b (l ++ preO (arrO wd os) j) ⟨#[125]⟩ _ Hw9.out Hlen9.out (by decide) (Nat.le_trans hBw hsw)).mono ?_; rintro e w2 (⟨a2, rfl, h2, hb2, hk2⟩ | ⟨a2, rfl, hb2⟩))
      · go_end0
        exact WrPost.next (o2 := [125]) Hlj.out Hb9.out Hk9.out (.inl ⟨a2, rfl, h2, hb2, hk2⟩)
      · exact ⟨rfl, WrPost.next (o2 := [125]) Hlj.out Hb9.out Hk9.out (.inr ⟨a2, rfl, hb2⟩)⟩
open Go Go.RowKit
set_option maxRecDepth 100000
theorem tout_7 {W : World} {t : TermD} {wd : Int} (hrw : 1 ≤ t.s.rw) (hwd : wrap64 ((t.args.length : Int) / t.s.rw) = wd) (hw0 : 1 ≤ wd) {os : Nat → List UInt8} (hos : ∀ i (h : i < t.args.length), (t.args[i].s.op = 6 ∧ t.args[i].s.nm.data.toList = os i ∧ t.args[i].s.nm.size ≤ 1048576) ∨ ((t.args[i].s.op == (6 : Int)) = false ∧ TermOut W t.args[i] (os i))) (hop : t.s.op = 7) : TermOut W t (preO (arrO wd os) t.args.length ++ [125]) := by
  intro x hx B b l w hB hBw h hl hw
  have hs := hx.s
  have HB := Lib.hid hB
  have Hl := Lib.hid hl
  have Hw := Lib.hid hw
  have hbl := WrIs.lt h
  rw [← hx.n] at hwd ⊢
  rw [hs] at hrw hwd
  have HcA := Lib.hid (fun w' => warray_call hx wd hrw hwd hw0 os hos B b l w' hB)
  clear hos hrw hwd
  obtain ⟨s, p, n, m⟩ := x
  simp only at hs HcA ⊢
  subst hs
  have hA1 := Scal.arr_size t.s (.slice p n m)
  go_enter Tryz.func37, Tryz.ntmps37
  go_upto_region 1 with fail
  generalize hW1 : World.alloc w _ = W1
  have hbc : Below B w W1 := by rw [← hW1]; exact (Below.refl _ _).alloc hBw _
  have hC : W1.heap[w.heap.size]? = some (.cells (t.s.row (.slice p n m)).toArray 29 (0, 0)) := by rw [← hW1]; exact heap_alloc_new _ _
  have h1 : WrIs B b l W1 := by rw [← hW1]; exact WrIs.alloc h _
  have hk1 : Lib.OthersKept 5 (some b) w W1 := by rw [← hW1]; exact (Lib.OthersKept.refl _ _ _).alloc _
  have hlc : Ck.Later W W1 := later_B hw hB hbc
  have HX := Lib.hid hx
  clear hW1 h hx hB hl hw
  obtain ⟨x0, x1, x2, x3, x4, x5, x6, x7, x8, x9, x10, x11, x12, x13, x14, x15, x16, x17, x18⟩ := block_all hC
  rw [hop] at x0
  have Hop := Lib.hid hop
  have HC := Lib.hid hC
  have Hbc := Lib.hid hbc
  have H1 := Lib.hid h1
  have Hk1 := Lib.hid hk1
  have Hlc := Lib.hid hlc
  have hne : w.heap.size ≠ b := by omega
  have hs1 := hbc.size
  have hB1 := Nat.le_trans hBw hs1
  clear hop hC hbc h1 hk1 hlc
  clear x1 x2 x3 x4 x5 x6 x7 x8 x9 x10 x11 x12 x13 x14 x15 x16 x17 x18
  go_wp2_with (first
    | (go_at_call 80; refine (HcA.out W1 hB1 H1.out Hl.out Hlc.out).mono ?_; rintro e w5 (⟨a5, rfl, h5, hb5, hk5⟩ | ⟨a5, rfl, hb5⟩))
    | (refine wpList_load_row rfl 29 _ rfl w.heap.size rfl 29 (t.s.arr (.slice p n m)) (0, 0) _ HC.out Tryz.underlying29 rfl size29 ?_))
  · go_end0
    exact WrPost.from Hbc.out Hk1.out (.inl ⟨a5, rfl, h5, hb5, hk5⟩)
  · exact ⟨rfl, WrPost.from Hbc.out Hk1.out (.inr ⟨a5, rfl, hb5⟩)⟩
end Go.Proofs.YtkeibmkcgnppeaaGreatDoor

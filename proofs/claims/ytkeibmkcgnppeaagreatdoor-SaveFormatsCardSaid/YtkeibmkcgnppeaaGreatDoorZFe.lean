/- Nodes in memory, and that Same is true of two nodes that stand for one tree. -/
import Derived.Test.YtkeibmkcgnppeaaGreatDoorZFd
import Derived.Laws.CopyOwn
import Derived.Test.YtkeibmkcgnppeaaGreatDoorProg
import Derived.WalkKit
import Derived.Deep.Slices
namespace Go.Proofs.YtkeibmkcgnppeaaGreatDoor
open Go Go.RowKit Go.Sort
set_option maxRecDepth 100000
theorem size62 : (Tryz.prog.info? 62).map (·.size) = some 3 := by kernel_rfl
theorem size49 : (Tryz.prog.info? 49).map (·.size) = some 6 := by kernel_rfl
def attr (a b c : ByteArray) : Value := .agg #[.string a, .string b, .string c]
theorem at_call (a b c : ByteArray) (w : World) :
    Calls Tryz.prog 20 #[.string a, .string b, .string c] w fun e w' => e = .returned (attr a b c) ∧ Below w.heap.size w w' := by
  have hs := size62
  go_enter Tryz.func20, Tryz.ntmps20
  go_wp2_with fail
  try simp only [Exit.inBlock, Exit.then]
  refine bodyPost_ret (results_cell_row rfl _ _ w.heap.size 62 _ _ _ rfl (heap_alloc_new _ _) Tryz.underlying62 rfl size62) rfl ?_
  exact ⟨rfl, (Below.refl _ _).alloc (Nat.le_refl _) _⟩
def dataSpace : ByteArray := ⟨#[117, 114, 110, 58, 111, 97, 115, 105, 115, 58, 110, 97, 109, 101, 115, 58, 116, 99, 58, 111, 112, 101, 110, 100, 111, 99, 117, 109, 101, 110, 116, 58, 120, 109, 108, 110, 115, 58, 100, 97, 116, 97, 115, 116, 121, 108, 101, 58, 49, 46, 48]⟩
theorem num_call (b c : ByteArray) (w : World) :
    Calls Tryz.prog 22 #[.string b, .string c] w fun e w' => e = .returned (attr dataSpace b c) ∧ Below w.heap.size w w' := by
  have hs := size62
  go_enter Tryz.func22, Tryz.ntmps22
  go_wp2_with fail
  refine (at_call _ b c _).mono ?_
  rintro e w1 ⟨rfl, hb⟩
  unfold attr
  have hg : w1.heap[w.heap.size]? = some (.cells #[.string ⟨#[]⟩, .string ⟨#[]⟩, .string ⟨#[]⟩] 62 (0, 0)) := by
    rw [hb.block _ (by simp)]
    exact heap_alloc_new _ _
  have hb0 : Below w.heap.size w w1 := ((Below.refl _ _).alloc (Nat.le_refl _) _).trans (hb.mono (by simp))
  have Hg := Lib.hid hg
  have h1c : (#[Value.string dataSpace, .string b, .string c].all fun x => x.oneCell') = true := by simp [Value.oneCell']
  clear hg
  go_wp2_with (refine wpList_store_row rfl 62 _ _ rfl w.heap.size #[.string dataSpace, .string b, .string c] rfl rfl 62 _ Hg.out size62 rfl h1c ?_)
  try simp only [Exit.inBlock, Exit.then]
  refine bodyPost_ret (results_cell_row rfl _ _ w.heap.size 62 #[.string dataSpace, .string b, .string c] _ _ rfl (setRow_heap _ _ _ _ _ _ Hg.out) Tryz.underlying62 rfl size62) rfl ?_
  exact ⟨rfl, below_setRow hb0 (Nat.le_refl _) _⟩
theorem el_call (a b : ByteArray) (p : Option Addr) (n m : Nat) (w : World) :
    Calls Tryz.prog 19 #[.string a, .string b, .slice p n m] w fun e w' => e = .returned (.agg #[.bool true, .string ⟨#[]⟩, .string a, .string b, .slice p n m, .slice none 0 0]) ∧ Below w.heap.size w w' := by
  have hs := size49
  go_enter Tryz.func19, Tryz.ntmps19
  go_wp2_with fail
  try simp only [Exit.inBlock, Exit.then]
  refine bodyPost_ret (results_cell_row rfl _ _ w.heap.size 49 #[.bool true, .string ⟨#[]⟩, .string a, .string b, .slice p n m, .slice none 0 0] _ _ rfl (heap_alloc_new _ _) Tryz.underlying49 rfl size49) rfl ?_
  exact ⟨rfl, (Below.refl _ _).alloc (Nat.le_refl _) _⟩
theorem save_digits (n : Int) (h0 : -9223372036854775808 ≤ n) (h1 : n ≤ 9223372036854775807) {H L : Nat → Nat} (w : World) (hW : NumW w H L) :
    Calls Tryz.prog 21 #[.int .i64 n] w fun e w' => e = .returned (.string ⟨(Lib.itoa n).toArray⟩) ∧ Below w.heap.size w w' := by
  have h := Tryz.strconv_Itoa n h0 h1 w (hW.tabs.ten _ (Below.refl _ _))
  go_enter Tryz.func21, Tryz.ntmps21
  go_wp2_with fail
  refine h.mono ?_
  rintro e w1 ⟨rfl, k, os, rfl⟩
  go_wp2_with fail
  go_ret
  exact ⟨rfl, Lib.below_grow _ _ (Nat.le_refl _) _ _⟩
end Go.Proofs.YtkeibmkcgnppeaaGreatDoor
namespace Go.Proofs.YtkeibmkcgnppeaaGreatDoor
open Go Go.RowKit
set_option maxRecDepth 100000
inductive Tree where
  | mk (elem : Bool) (text space loc : ByteArray) (attrs : List (ByteArray × ByteArray × ByteArray)) (kids : List Tree)
def rowAt (w : World) (b off n : Nat) : List (Option Value) := (List.range n).map fun k => w.cell? ⟨b, off + k, none⟩
def AttrsIs (w : World) (S : Nat → Prop) (v : Value) (xs : List (ByteArray × ByteArray × ByteArray)) : Prop :=
  (∃ p m, v = .slice p xs.length m) ∧
  ∀ j (h : j < xs.length), ∃ b off n m, v = .slice (some ⟨b, off, none⟩) n m ∧ S b ∧
    rowAt w b (off + 3 * j) 3 = [some (.string xs[j].1), some (.string xs[j].2.1), some (.string xs[j].2.2)]
inductive NodeIs (w : World) (S : Nat → Prop) : Tree → List (Option Value) → Prop where
  | mk (elem : Bool) (text space loc : ByteArray) (attrs : List (ByteArray × ByteArray × ByteArray)) (kids : List Tree) (va : Value) (p : Option Addr) (m : Nat)
      (hal : attrs.length < 4611686018427387904) (hkl : kids.length < 4611686018427387904) (ha : AttrsIs w S va attrs)
      (hp : kids ≠ [] → ∃ b off, p = some ⟨b, off, none⟩ ∧ S b)
      (hk : ∀ b off, p = some ⟨b, off, none⟩ → ∀ j (h : j < kids.length), NodeIs w S kids[j] (rowAt w b (off + 6 * j) 6)) :
      NodeIs w S (.mk elem text space loc attrs kids) [some (.bool elem), some (.string text), some (.string space), some (.string loc), some va, some (.slice p kids.length m)]
theorem rowAt_same {w w' : World} {b : Nat} (h : w'.heap[b]? = w.heap[b]?) (off n : Nat) : rowAt w' b off n = rowAt w b off n := by
  unfold rowAt
  refine List.map_congr_left fun k _ => ?_
  simp only [World.cell?, h]
theorem rowAt_below {B : Nat} {w w' : World} (hb : Below B w w') {b : Nat} (h : b < B) (off n : Nat) : rowAt w' b off n = rowAt w b off n :=
  rowAt_same (hb.block b h) off n
theorem AttrsIs.same {S : Nat → Prop} {w w' : World} (hb : ∀ b, S b → w'.heap[b]? = w.heap[b]?) {v : Value} {xs : List (ByteArray × ByteArray × ByteArray)} (h : AttrsIs w S v xs) : AttrsIs w' S v xs := by
  refine ⟨h.1, fun j hj => ?_⟩
  obtain ⟨b, off, n, m, hv, hlt, hr⟩ := h.2 j hj
  exact ⟨b, off, n, m, hv, hlt, by rw [rowAt_same (hb b hlt)]; exact hr⟩
theorem NodeIs.same {S : Nat → Prop} {w w' : World} (hb : ∀ b, S b → w'.heap[b]? = w.heap[b]?) {t : Tree} {r : List (Option Value)} (h : NodeIs w S t r) : NodeIs w' S t r := by
  induction h with
  | mk elem text space loc attrs kids va p m hal hkl ha hp hk ih =>
    refine .mk elem text space loc attrs kids va p m hal hkl (ha.same hb) hp fun b off hpb j hj => ?_
    obtain ⟨b', off', hp', hlt⟩ := hp (by intro e; rw [e] at hj; exact absurd hj (Nat.not_lt_zero _))
    rw [hpb] at hp'
    cases hp'
    rw [rowAt_same (hb b hlt)]
    exact ih b off hpb j hj
theorem AttrsIs.sub {S S' : Nat → Prop} {w : World} (hS : ∀ b, S b → S' b) {v : Value} {xs : List (ByteArray × ByteArray × ByteArray)} (h : AttrsIs w S v xs) : AttrsIs w S' v xs :=
  ⟨h.1, fun j hj => by
    obtain ⟨b, off, n, m, hv, hlt, hr⟩ := h.2 j hj
    exact ⟨b, off, n, m, hv, hS b hlt, hr⟩⟩
theorem NodeIs.sub {S S' : Nat → Prop} {w : World} (hS : ∀ b, S b → S' b) {t : Tree} {r : List (Option Value)} (h : NodeIs w S t r) : NodeIs w S' t r := by
  induction h with
  | mk elem text space loc attrs kids va p m hal hkl ha hp hk ih =>
    exact .mk elem text space loc attrs kids va p m hal hkl (ha.sub hS) (fun e => by obtain ⟨b, off, h1, h2⟩ := hp e; exact ⟨b, off, h1, hS b h2⟩) ih
def Low (B : Nat) : Nat → Prop := fun b => b < B
theorem AttrsIs.keep {B : Nat} {w w' : World} (hb : Below B w w') {v : Value} {xs : List (ByteArray × ByteArray × ByteArray)} (h : AttrsIs w (Low B) v xs) : AttrsIs w' (Low B) v xs := h.same hb.block
theorem NodeIs.keep {B : Nat} {w w' : World} (hb : Below B w w') {t : Tree} {r : List (Option Value)} (h : NodeIs w (Low B) t r) : NodeIs w' (Low B) t r := h.same hb.block
theorem AttrsIs.mono {B C : Nat} {w : World} (hBC : B ≤ C) {v : Value} {xs : List (ByteArray × ByteArray × ByteArray)} (h : AttrsIs w (Low B) v xs) : AttrsIs w (Low C) v xs := h.sub fun _ hb => Nat.lt_of_lt_of_le hb hBC
theorem NodeIs.mono {B C : Nat} {w : World} (hBC : B ≤ C) {t : Tree} {r : List (Option Value)} (h : NodeIs w (Low B) t r) : NodeIs w (Low C) t r := h.sub fun _ hb => Nat.lt_of_lt_of_le hb hBC
end Go.Proofs.YtkeibmkcgnppeaaGreatDoor
namespace Go.Proofs.YtkeibmkcgnppeaaGreatDoor
open Go Go.RowKit Go.Sort
set_option maxRecDepth 100000
theorem row3 {w W wr : World} (h1 : Below w.heap.size W wr) (h2 : Below w.heap.size w W) {b o j : Nat} (hb : b < w.heap.size) {x y z : Value} (h : rowAt w b (o + 3 * j) 3 = [some x, some y, some z]) :
    wr.cell? ⟨b, o + j * 3, none⟩ = some x ∧ wr.cell? ⟨b, o + j * 3 + 1, none⟩ = some y ∧ wr.cell? ⟨b, o + j * 3 + 2, none⟩ = some z := by
  rw [← rowAt_below (h2.trans h1) hb] at h
  rw [Nat.mul_comm 3 j] at h
  simpa [rowAt, List.range_succ] using h
structure KidsSame (wr : World) (b1 o1 b2 o2 j : Nat) (x0 x1 x2 x3 x4 x5 y0 y1 y2 y3 y4 y5 : Value) : Prop where
  c0 : wr.cell? ⟨b1, o1 + j * 6, none⟩ = some x0
  c1 : wr.cell? ⟨b1, o1 + j * 6 + 1, none⟩ = some x1
  c2 : wr.cell? ⟨b1, o1 + j * 6 + 2, none⟩ = some x2
  c3 : wr.cell? ⟨b1, o1 + j * 6 + 3, none⟩ = some x3
  c4 : wr.cell? ⟨b1, o1 + j * 6 + 4, none⟩ = some x4
  c5 : wr.cell? ⟨b1, o1 + j * 6 + 5, none⟩ = some x5
  d0 : wr.cell? ⟨b2, o2 + j * 6, none⟩ = some y0
  d1 : wr.cell? ⟨b2, o2 + j * 6 + 1, none⟩ = some y1
  d2 : wr.cell? ⟨b2, o2 + j * 6 + 2, none⟩ = some y2
  d3 : wr.cell? ⟨b2, o2 + j * 6 + 3, none⟩ = some y3
  d4 : wr.cell? ⟨b2, o2 + j * 6 + 4, none⟩ = some y4
  d5 : wr.cell? ⟨b2, o2 + j * 6 + 5, none⟩ = some y5
  call : ∀ w2, Below wr.heap.size wr w2 → Calls Tryz.prog 14 #[.agg #[x0, x1, x2, x3, x4, x5], .agg #[y0, y1, y2, y3, y4, y5]] w2 fun r w' => r = .returned (.bool true) ∧ Below w2.heap.size w2 w'
set_option maxHeartbeats 1000000 in
theorem same_step (e : Bool) (t a b : ByteArray) (xs : List (ByteArray × ByteArray × ByteArray)) (n : Nat) (p q : Option Addr) (m1 m2 : Nat) (pk qk : Option Addr) (k1 k2 : Nat) (w : World)
    (h1 : AttrsIs w (Low w.heap.size) (.slice p xs.length m1) xs) (h2 : AttrsIs w (Low w.heap.size) (.slice q xs.length m2) xs)
    (hkids : ∀ j, j < n → ∀ wr, Below w.heap.size w wr → ∃ b1 o1 b2 o2 x0 x1 x2 x3 x4 x5 y0 y1 y2 y3 y4 y5, pk = some ⟨b1, o1, none⟩ ∧ qk = some ⟨b2, o2, none⟩ ∧ KidsSame wr b1 o1 b2 o2 j x0 x1 x2 x3 x4 x5 y0 y1 y2 y3 y4 y5) (hn : n < 4611686018427387904) (hxl : xs.length < 4611686018427387904) :
    Calls Tryz.prog 14 #[.agg #[.bool e, .string t, .string a, .string b, .slice p xs.length m1, .slice pk n k1], .agg #[.bool e, .string t, .string a, .string b, .slice q xs.length m2, .slice qk n k2]] w
      fun r w' => r = .returned (.bool true) ∧ Below w.heap.size w w' := by
  have H1 := Lib.hid h1
  have H2 := Lib.hid h2
  have Hk := Lib.hid hkids
  clear h1 h2 hkids
  go_enter Tryz.func14, Tryz.ntmps14
  go_wp2_with fail
  generalize hW : (w.alloc (Obj.cells #[Value.bool e, Value.string t, Value.string a, Value.string b, Value.slice p xs.length m1, Value.slice pk n k1] 49)).alloc (Obj.cells #[Value.bool e, Value.string t, Value.string a, Value.string b, Value.slice q xs.length m2, Value.slice qk n k2] 49) = W
  have hWs : W.heap.size = w.heap.size + 2 := by rw [← hW]; simp
  have hWw : Below w.heap.size w W := by rw [← hW]; exact ((Below.refl _ _).alloc (Nat.le_refl _) _).alloc (by simp) _
  have hb1 : W.heap[w.heap.size]? = some (.cells #[Value.bool e, Value.string t, Value.string a, Value.string b, Value.slice p xs.length m1, Value.slice pk n k1] 49 (0, 0)) := by
    rw [← hW, heap_alloc_old]
    · exact heap_alloc_new _ _
    · simp
  have hb2 : W.heap[w.heap.size + 1]? = some (.cells #[Value.bool e, Value.string t, Value.string a, Value.string b, Value.slice q xs.length m2, Value.slice qk n k2] 49 (0, 0)) := by
    rw [← hW]
    exact heap_alloc2_new _ _ _
  have Hb1 := Lib.hid hb1
  have Hb2 := Lib.hid hb2
  clear hW hb1 hb2
  go_loopw [5] (fun v wr => ∃ j : Nat, j ≤ xs.length ∧ v = .int .i64 j ∧ Below (w.heap.size + 2) W wr) (fun v _ => xs.length - (intOf v).toNat)
  case atStart => exact ⟨0, Nat.zero_le _, rfl, Below.refl _ _⟩
  case round =>
    obtain ⟨j, hj, rfl, hb⟩ := hrel
    have hs := hb.size
    have hf1 : wr.cell? ⟨w.heap.size, 4, none⟩ = some (.slice p xs.length m1) := by
      rw [hb.cell (show w.heap.size < w.heap.size + 2 by omega)]
      simp [World.cell?, Hb1.out]
    have hf2 : wr.cell? ⟨w.heap.size + 1, 4, none⟩ = some (.slice q xs.length m2) := by
      rw [hb.cell (show w.heap.size + 1 < w.heap.size + 2 by omega)]
      simp [World.cell?, Hb2.out]
    have Hb := Lib.hid hb
    clear hb
    rcases Nat.lt_or_ge j xs.length with hlt | hge
    · obtain ⟨b1, o1, n1, c1, hv1, hl1, hr1⟩ := H1.out.2 j hlt
      obtain ⟨b2, o2, n2, c2, hv2, hl2, hr2⟩ := H2.out.2 j hlt
      have hp1 : p = some ⟨b1, o1, none⟩ := by cases hv1; rfl
      have hp2 : q = some ⟨b2, o2, none⟩ := by cases hv2; rfl
      obtain ⟨f11, f12, f13⟩ := row3 (Hb.out.mono (by omega)) hWw hl1 hr1
      obtain ⟨f21, f22, f23⟩ := row3 (Hb.out.mono (by omega)) hWw hl2 hr2
      rw [hp1] at hf1
      rw [hp2] at hf2
      clear hv1 hv2 hr1 hr2
      go_wp2_with fail
      go_region
      go_wp2_with fail
      exact ⟨⟨j + 1, hlt, rfl, Hb.out.drew⟩, by simp only [intOf]; omega⟩
    · have hjl : j = xs.length := by omega
      subst hjl
      go_wp2_with fail
      clear hf1 hf2
      go_loopw [6] (fun v wq => ∃ j : Nat, j ≤ n ∧ v = .int .i64 j ∧ Below (w.heap.size + 2) W wq) (fun v _ => n - (intOf v).toNat)
      case atStart => exact ⟨0, Nat.zero_le _, rfl, Hb.out⟩
      case round =>
        obtain ⟨j, hj, rfl, hb⟩ := hrel
        have hs := hb.size
        have hf1 : wr.cell? ⟨w.heap.size, 5, none⟩ = some (.slice pk n k1) := by
          rw [hb.cell (show w.heap.size < w.heap.size + 2 by omega)]
          simp [World.cell?, Hb1.out]
        have hf2 : wr.cell? ⟨w.heap.size + 1, 5, none⟩ = some (.slice qk n k2) := by
          rw [hb.cell (show w.heap.size + 1 < w.heap.size + 2 by omega)]
          simp [World.cell?, Hb2.out]
        have hbw : Below w.heap.size w wr := hWw.trans (hb.mono (by omega))
        have Hb3 := Lib.hid hb
        have Hbw := Lib.hid hbw
        clear hb hbw Hb
        rcases Nat.lt_or_ge j n with hlt | hge
        · obtain ⟨b1, o1, b2, o2, x0, x1, x2, x3, x4, x5, y0, y1, y2, y3, y4, y5, rfl, rfl, K⟩ := Hk.out j hlt wr Hbw.out
          obtain ⟨c0, c1, c2, c3, c4, c5, d0, d1, d2, d3, d4, d5, call⟩ := K
          have Hcall := Lib.hid call
          clear call
          go_wp2_with fail
          go_region_with (go_at_call 14; refine (Hcall.out _ ((Below.refl _ _).drew)).mono ?_; rintro r w4 ⟨rfl, hb4⟩)
          all_goals (
            go_wp2_with fail
            exact ⟨⟨j + 1, hlt, rfl, Hb3.out.drew.trans (hb4.mono (by show w.heap.size + 2 ≤ wr.heap.size; omega))⟩, by simp only [intOf]; omega⟩)
        · have hjl : j = n := by omega
          subst hjl
          go_wp2_with fail
          go_ret
          exact ⟨rfl, Hbw.out⟩
end Go.Proofs.YtkeibmkcgnppeaaGreatDoor
namespace Go.Proofs.YtkeibmkcgnppeaaGreatDoor
open Go Go.RowKit Go.Sort
set_option maxRecDepth 100000
theorem row6 {w : World} {b o j : Nat} {x0 x1 x2 x3 x4 x5 : Value} (h : rowAt w b (o + 6 * j) 6 = [some x0, some x1, some x2, some x3, some x4, some x5]) :
    w.cell? ⟨b, o + j * 6, none⟩ = some x0 ∧ w.cell? ⟨b, o + j * 6 + 1, none⟩ = some x1 ∧ w.cell? ⟨b, o + j * 6 + 2, none⟩ = some x2 ∧ w.cell? ⟨b, o + j * 6 + 3, none⟩ = some x3 ∧ w.cell? ⟨b, o + j * 6 + 4, none⟩ = some x4 ∧ w.cell? ⟨b, o + j * 6 + 5, none⟩ = some x5 := by
  rw [Nat.mul_comm 6 j] at h
  simpa [rowAt, List.range_succ] using h
theorem NodeIs.six {w : World} {S : Nat → Prop} {t : Tree} {r : List (Option Value)} (h : NodeIs w S t r) : ∃ x0 x1 x2 x3 x4 x5, r = [some x0, some x1, some x2, some x3, some x4, some x5] := by
  cases h
  exact ⟨_, _, _, _, _, _, rfl⟩
theorem same_call {w0 : World} {B : Nat} {t : Tree} {r : List (Option Value)} (h : NodeIs w0 (Low B) t r) :
    ∀ (w : World), Below B w0 w → B ≤ w.heap.size → ∀ (B2 : Nat), B2 ≤ w.heap.size → ∀ r2, NodeIs w (Low B2) t r2 → ∀ x0 x1 x2 x3 x4 x5 y0 y1 y2 y3 y4 y5,
      r = [some x0, some x1, some x2, some x3, some x4, some x5] → r2 = [some y0, some y1, some y2, some y3, some y4, some y5] →
      Calls Tryz.prog 14 #[.agg #[x0, x1, x2, x3, x4, x5], .agg #[y0, y1, y2, y3, y4, y5]] w fun r w' => r = .returned (.bool true) ∧ Below w.heap.size w w' := by
  induction h with
  | mk elem text space loc attrs kids va p m hal hkl ha hp hk ih =>
    intro w hb hB B2 hB2 r2 h2 x0 x1 x2 x3 x4 x5 y0 y1 y2 y3 y4 y5 e1 e2
    have h2' := h2
    cases h2 with
    | mk _ _ _ _ _ _ va2 p2 m2 hal2 hkl2 ha2 hp2 hk2 =>
      simp only [List.cons.injEq, Option.some.injEq, and_true] at e1 e2
      obtain ⟨rfl, rfl, rfl, rfl, rfl, rfl⟩ := e1
      obtain ⟨rfl, rfl, rfl, rfl, rfl, rfl⟩ := e2
      obtain ⟨⟨q1, n1, rfl⟩, _⟩ := id ha
      obtain ⟨⟨q2, n2, rfl⟩, _⟩ := id ha2
      refine same_step elem text space loc attrs kids.length q1 q2 n1 n2 p p2 m m2 w ((ha.keep hb).mono hB) (ha2.mono hB2) (fun j hj wr hwr => ?_) hkl hal
      have hne : kids ≠ [] := by intro e; rw [e] at hj; exact absurd hj (Nat.not_lt_zero _)
      obtain ⟨b1, o1, rfl, hl1⟩ := hp hne
      obtain ⟨b2, o2, rfl, hl2⟩ := hp2 hne
      have k1 := hk b1 o1 rfl j hj
      have k2 := hk2 b2 o2 rfl j hj
      have hbr : Below B w0 wr := hb.trans (hwr.mono hB)
      have hbr2 : Below B2 w wr := hwr.mono hB2
      obtain ⟨x0, x1, x2, x3, x4, x5, e1⟩ := k1.six
      obtain ⟨y0, y1, y2, y3, y4, y5, e2⟩ := k2.six
      have f1 : rowAt wr b1 (o1 + 6 * j) 6 = _ := (rowAt_below hbr hl1 _ _).trans e1
      have f2 : rowAt wr b2 (o2 + 6 * j) 6 = _ := (rowAt_below hbr2 hl2 _ _).trans e2
      obtain ⟨c0, c1, c2, c3, c4, c5⟩ := row6 f1
      obtain ⟨d0, d1, d2, d3, d4, d5⟩ := row6 f2
      have hsz := hwr.size
      refine ⟨b1, o1, b2, o2, x0, x1, x2, x3, x4, x5, y0, y1, y2, y3, y4, y5, rfl, rfl, ⟨c0, c1, c2, c3, c4, c5, d0, d1, d2, d3, d4, d5, fun w2 hw2 => ?_⟩⟩
      have hsz2 := hw2.size
      exact ih b1 o1 rfl j hj w2 (hbr.trans (hw2.mono (by omega))) (by omega) B2 (by omega) _ ((k2.keep hbr2).keep (hw2.mono (by omega))) x0 x1 x2 x3 x4 x5 y0 y1 y2 y3 y4 y5 e1 e2
end Go.Proofs.YtkeibmkcgnppeaaGreatDoor
namespace Go.Proofs.YtkeibmkcgnppeaaGreatDoor
open Go Go.RowKit Go.Sort
set_option maxRecDepth 100000
theorem relem_call (a b : ByteArray) (w : World) :
    Calls Tryz.prog 27 #[.string a, .string b] w fun e w' => e = .returned (.agg #[.bool true, .string ⟨#[]⟩, .string a, .string b, .slice none 0 0, .slice none 0 0]) ∧ Below w.heap.size w w' := by
  have hs := size49
  go_enter Tryz.func27, Tryz.ntmps27
  go_wp2_with fail
  try simp only [Exit.inBlock, Exit.then]
  refine bodyPost_ret (results_cell_row rfl _ _ w.heap.size 49 #[.bool true, .string ⟨#[]⟩, .string a, .string b, .slice none 0 0, .slice none 0 0] _ _ rfl (heap_alloc_new _ _) Tryz.underlying49 rfl size49) rfl ?_
  exact ⟨rfl, (Below.refl _ _).alloc (Nat.le_refl _) _⟩
theorem rcount_call (n : Int) (h0 : -9223372036854775808 ≤ n) (h1 : n ≤ 9223372036854775807) {H L : Nat → Nat} (w : World) (hW : NumW w H L) :
    Calls Tryz.prog 28 #[.int .i64 n] w fun e w' => e = .returned (.string ⟨(Lib.itoa n).toArray⟩) ∧ Below w.heap.size w w' := by
  have h := Tryz.strconv_Itoa n h0 h1 w (hW.tabs.ten _ (Below.refl _ _))
  go_enter Tryz.func28, Tryz.ntmps28
  go_wp2_with fail
  refine h.mono ?_
  rintro e w1 ⟨rfl, k, os, rfl⟩
  go_wp2_with fail
  go_ret
  exact ⟨rfl, Lib.below_grow _ _ (Nat.le_refl _) _ _⟩
end Go.Proofs.YtkeibmkcgnppeaaGreatDoor

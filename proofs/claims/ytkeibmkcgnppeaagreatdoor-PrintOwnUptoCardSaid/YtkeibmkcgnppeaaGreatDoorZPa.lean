/- What a term in memory stands for; a term s copy. -/
import Derived.Test.YtkeibmkcgnppeaaGreatDoorZGa
import Derived.Test.YtkeibmkcgnppeaaGreatDoorProg
import Derived.WalkKit
import Derived.Deep.MidRow
import Derived.Deep.Slices
import Derived.Deep.AppendLies
set_option maxHeartbeats 32000000
set_option linter.unusedSimpArgs false
set_option linter.unusedVariables false
namespace Go.Proofs.YtkeibmkcgnppeaaGreatDoor
open Go Go.RowKit
set_option maxRecDepth 100000
structure Scal where
  op : Int
  num : Nat
  tx : ByteArray
  er : Int
  nm : ByteArray
  rs : ByteArray
  rt : ByteArray
  rf : Bool
  ra : Bool
  a0 : Int
  a1 : Int
  a2 : Bool
  a3 : Bool
  b0 : Int
  b1 : Int
  b2 : Bool
  b3 : Bool
  rw : Int
def Scal.row (s : Scal) (v : Value) : List Value := [.int .i64 s.op, .float .f64 s.num, .string s.tx, .int .i64 s.er, .string s.nm, .string s.rs, .string s.rt, .bool s.rf, .bool s.ra, .int .i64 s.a0, .int .i64 s.a1, .bool s.a2, .bool s.a3, .int .i64 s.b0, .int .i64 s.b1, .bool s.b2, .bool s.b3, .int .i64 s.rw, v]
abbrev Scal.arr (s : Scal) (v : Value) : Array Value := (s.row v).toArray
structure Scal.OK (s : Scal) : Prop where
  num : s.num < 18446744073709551616
  tx : s.tx.size ≤ 1048576
  nm : s.nm.size ≤ 1048576
  rs : s.rs.size ≤ 1048576
  rt : s.rt.size ≤ 1048576
inductive TermD where
  | mk (s : Scal) (args : List TermD)
mutual
def TermD.wt : TermD → Nat
  | .mk _ l => 1 + wts l
def wts : List TermD → Nat
  | [] => 0
  | t :: r => t.wt + wts r
end
theorem TermD.wt_pos (t : TermD) : 1 ≤ t.wt := by cases t; simp only [TermD.wt]; omega
theorem wts_get : ∀ (l : List TermD) (j : Nat) (h : j < l.length), l[j].wt ≤ wts l
  | t :: r, 0, _ => by simp only [List.getElem_cons_zero, wts]; omega
  | t :: r, j + 1, h => by
    have := wts_get r j (Nat.lt_of_succ_lt_succ h)
    simp only [List.getElem_cons_succ, wts]
    omega
inductive TermIs (w : World) (S : Nat → Prop) : TermD → List (Option Value) → Prop where
  | mk (s : Scal) (args : List TermD) (p : Option Addr) (m : Nat) (hok : s.OK) (hl : args.length ≤ 1048576)
      (hp : args ≠ [] → ∃ b off, p = some ⟨b, off, none⟩ ∧ S b)
      (hk : ∀ b off, p = some ⟨b, off, none⟩ → ∀ j (h : j < args.length), TermIs w S args[j] (rowAt w b (off + 19 * j) 19)) :
      TermIs w S (.mk s args) ((s.row (.slice p args.length m)).map some)
theorem TermIs.same {S : Nat → Prop} {w w' : World} (hb : ∀ b, S b → w'.heap[b]? = w.heap[b]?) {t : TermD} {r : List (Option Value)} (h : TermIs w S t r) : TermIs w' S t r := by
  induction h with
  | mk s args p m hok hl hp hk ih =>
    refine .mk s args p m hok hl hp fun b off hpb j hj => ?_
    obtain ⟨b', off', hp', hlt⟩ := hp (by intro e; rw [e] at hj; exact absurd hj (Nat.not_lt_zero _))
    rw [hpb] at hp'
    cases hp'
    rw [rowAt_same (hb b hlt)]
    exact ih b off hpb j hj
theorem TermIs.sub {S S' : Nat → Prop} {w : World} (hS : ∀ b, S b → S' b) {t : TermD} {r : List (Option Value)} (h : TermIs w S t r) : TermIs w S' t r := by
  induction h with
  | mk s args p m hok hl hp hk ih => exact .mk s args p m hok hl (fun e => by obtain ⟨b, off, h1, h2⟩ := hp e; exact ⟨b, off, h1, hS b h2⟩) ih
theorem TermIs.keep {B : Nat} {w w' : World} (hb : Below B w w') {t : TermD} {r : List (Option Value)} (h : TermIs w (Low B) t r) : TermIs w' (Low B) t r := h.same hb.block
theorem TermIs.mono {B C : Nat} {w : World} (hBC : B ≤ C) {t : TermD} {r : List (Option Value)} (h : TermIs w (Low B) t r) : TermIs w (Low C) t r := h.sub fun _ hb => Nat.lt_of_lt_of_le hb hBC
theorem TermIs.cells {w : World} {S : Nat → Prop} {t : TermD} {r : List (Option Value)} (h : TermIs w S t r) : ∃ s args p m, t = .mk s args ∧ r = (s.row (.slice p args.length m)).map some := by
  cases h
  exact ⟨_, _, _, _, rfl, rfl⟩
theorem row_lt {w : World} {b off n : Nat} {x : Value} {l : List (Option Value)} (h : rowAt w b off (n + 1) = some x :: l) : b < w.heap.size := by
  have h0 : (rowAt w b off (n + 1))[0]? = some (w.cell? ⟨b, off, none⟩) := by simp [rowAt]
  rw [h] at h0
  simp only [List.getElem?_cons_zero, Option.some.injEq] at h0
  exact World.block_lt_of_cell? w ⟨b, off, none⟩ h0.symm
theorem TermIs.inside {w : World} {S : Nat → Prop} {t : TermD} {r : List (Option Value)} (h : TermIs w S t r) : TermIs w (fun b => S b ∧ b < w.heap.size) t r := by
  induction h with
  | mk s args p m hok hl hp hk ih =>
    refine .mk s args p m hok hl (fun hne => ?_) ih
    obtain ⟨b, off, h1, h2⟩ := hp hne
    refine ⟨b, off, h1, h2, ?_⟩
    obtain ⟨s0, a0, p0, m0, _, e⟩ := (hk b off h1 0 (List.length_pos_iff.2 hne)).cells
    exact row_lt e
theorem TermIs.low {w : World} {S : Nat → Prop} {t : TermD} {r : List (Option Value)} (h : TermIs w S t r) : TermIs w (Low w.heap.size) t r := h.inside.sub fun _ hb => hb.2
abbrev Cells (w : World) (b o : Nat) (s : Scal) (v : Value) : Prop := w.rangeAt b o (s.row v)
theorem Scal.row_len (s : Scal) (v : Value) : (s.row v).length = 19 := rfl
theorem Scal.arr_size (s : Scal) (v : Value) : (s.row v).toArray.size = 19 := rfl
theorem Scal.row_one (s : Scal) (p : Option Addr) (n m : Nat) : ∀ u ∈ s.row (.slice p n m), u.oneCell' = true := by simp [Scal.row, Value.oneCell']
theorem Scal.arr_one (s : Scal) (p : Option Addr) (n m : Nat) : (s.row (.slice p n m)).toArray.all (·.oneCell') = true := by simp [Scal.row, Value.oneCell']
theorem cells_of {w : World} {b o : Nat} {s : Scal} {v : Value} (h : rowAt w b o 19 = (s.row v).map some) : Cells w b o s v := by
  intro j u hu
  have hj : j < 19 := (List.getElem?_eq_some_iff.1 hu).1
  have e : (rowAt w b o 19)[j]? = some (some u) := by rw [h, List.getElem?_map, hu]; rfl
  simpa [rowAt, hj] using e
theorem cells_block {w : World} {b : Nat} {s : Scal} {v : Value} {e : TypeId} {r : Nat × Nat} (h : w.heap[b]? = some (.cells (s.row v).toArray e r)) : Cells w b 0 s v := by
  intro j u hu
  simp only [World.cell?, h, Nat.zero_add]
  simpa using hu
theorem block18 {w : World} {b : Nat} {s : Scal} {v : Value} {e : TypeId} {r : Nat × Nat} (h : w.heap[b]? = some (.cells (s.row v).toArray e r)) : w.cell? ⟨b, 18, none⟩ = some v := by
  have := (cells_block h) 18 v rfl
  simpa using this
theorem block_all {w : World} {b : Nat} {s : Scal} {v : Value} {e : TypeId} {r : Nat × Nat} (h : w.heap[b]? = some (.cells (s.row v).toArray e r)) :
    w.cell? ⟨b, 0, none⟩ = some (.int .i64 s.op) ∧ w.cell? ⟨b, 1, none⟩ = some (.float .f64 s.num) ∧ w.cell? ⟨b, 2, none⟩ = some (.string s.tx) ∧ w.cell? ⟨b, 3, none⟩ = some (.int .i64 s.er) ∧ w.cell? ⟨b, 4, none⟩ = some (.string s.nm) ∧ w.cell? ⟨b, 5, none⟩ = some (.string s.rs) ∧ w.cell? ⟨b, 6, none⟩ = some (.string s.rt) ∧ w.cell? ⟨b, 7, none⟩ = some (.bool s.rf) ∧ w.cell? ⟨b, 8, none⟩ = some (.bool s.ra) ∧ w.cell? ⟨b, 9, none⟩ = some (.int .i64 s.a0) ∧ w.cell? ⟨b, 10, none⟩ = some (.int .i64 s.a1) ∧ w.cell? ⟨b, 11, none⟩ = some (.bool s.a2) ∧ w.cell? ⟨b, 12, none⟩ = some (.bool s.a3) ∧ w.cell? ⟨b, 13, none⟩ = some (.int .i64 s.b0) ∧ w.cell? ⟨b, 14, none⟩ = some (.int .i64 s.b1) ∧ w.cell? ⟨b, 15, none⟩ = some (.bool s.b2) ∧ w.cell? ⟨b, 16, none⟩ = some (.bool s.b3) ∧ w.cell? ⟨b, 17, none⟩ = some (.int .i64 s.rw) ∧ w.cell? ⟨b, 18, none⟩ = some v :=
  have hc := cells_block h
  ⟨by simpa using hc 0 _ rfl, by simpa using hc 1 _ rfl, by simpa using hc 2 _ rfl, by simpa using hc 3 _ rfl, by simpa using hc 4 _ rfl, by simpa using hc 5 _ rfl, by simpa using hc 6 _ rfl, by simpa using hc 7 _ rfl, by simpa using hc 8 _ rfl, by simpa using hc 9 _ rfl, by simpa using hc 10 _ rfl, by simpa using hc 11 _ rfl, by simpa using hc 12 _ rfl, by simpa using hc 13 _ rfl, by simpa using hc 14 _ rfl, by simpa using hc 15 _ rfl, by simpa using hc 16 _ rfl, by simpa using hc 17 _ rfl, by simpa using hc 18 _ rfl⟩
theorem Cells.below {w w' : World} {b o : Nat} {s : Scal} {v : Value} (h : Cells w b o s v) (hk : w'.heap[b]? = w.heap[b]?) : Cells w' b o s v := fun j u hu => by
  have := h j u hu
  simp only [World.cell?] at this ⊢
  rw [hk]
  exact this
open Go Go.RowKit
set_option maxRecDepth 100000
theorem size29 : (Tryz.prog.info? 29).map (·.size) = some 19 := by kernel_rfl
theorem Cells.keep {w w' : World} {b o : Nat} {s : Scal} {v : Value} (h : Cells w b o s v) (hb : RowKit.Below w.heap.size w w') : Cells w' b o s v := fun j u hu => cell_keep hb (h j u hu)
def zeroTerm : Array Value := #[.int .i64 0, .float .f64 0, .string ⟨#[]⟩, .int .i64 0, .string ⟨#[]⟩, .string ⟨#[]⟩, .string ⟨#[]⟩, .bool false, .bool false, .int .i64 0, .int .i64 0, .bool false, .bool false, .int .i64 0, .int .i64 0, .bool false, .bool false, .int .i64 0, .slice none 0 0]
theorem info29 : (Tryz.prog.info? 29).map (fun i => (i.zero, i.size, i.bytes)) = some (some (.agg zeroTerm), 19, 176) := by kernel_rfl
theorem foldl_row (s : Scal) (v : Value) : List.foldl (fun cs x => cs.setIfInBounds x.snd x.fst) #[Value.int .i64 0, .float .f64 0, .string ⟨#[]⟩, .int .i64 0, .string ⟨#[]⟩, .string ⟨#[]⟩, .string ⟨#[]⟩, .bool false, .bool false, .int .i64 0, .int .i64 0, .bool false, .bool false, .int .i64 0, .int .i64 0, .bool false, .bool false, .int .i64 0, .slice none 0 0] (s.row v).zipIdx = s.arr v := by
  simp only [Scal.row, List.zipIdx_cons, List.zipIdx_nil, List.foldl_cons, List.foldl_nil, List.setIfInBounds_toArray, List.set_cons_zero, List.set_cons_succ, Nat.zero_add, Nat.reduceAdd]
  rfl
attribute [local go_sem] foldl_row
structure ArgsIs (w : World) (B : Nat) (v : Value) (cs : List Value) (ts : List TermD) : Prop where
  own : w.ownsRow B 29 19 v ts.length cs
  big : B ≤ w.heap.size
  node : ∀ j (h : j < ts.length), TermIs w (fun b => B ≤ b ∧ b < w.heap.size ∧ some b ≠ v.ownBlock) ts[j] (((cs.drop (19 * j)).take 19).map some)
theorem ArgsIs.nil {w : World} {B : Nat} (h : B ≤ w.heap.size) : ArgsIs w B (.slice none 0 0) [] [] :=
  ⟨World.ownsRow_nil _ _ _ _, h, fun j hj => absurd hj (Nat.not_lt_zero _)⟩
theorem ArgsIs.next {w0 w1 w2 w3 : World} {B C : Nat} {v : Value} {cs : List Value} {ts : List TermD} (h : ArgsIs w0 B v cs ts) {t : TermD} {news : List Value} (hnl : news.length = 19)
    (h01 : w0.heap.size ≤ C) (hC : C ≤ w1.heap.size) (hk1 : ∀ b, b < w0.heap.size → w1.heap[b]? = w0.heap[b]?)
    (hn : TermIs w1 (fun b => C ≤ b) t (news.map some))
    (h12 : w1.heap.size ≤ w2.heap.size) (hk2 : ∀ b, b < w1.heap.size → w2.heap[b]? = w1.heap[b]?)
    {g cap : Nat} (hown : w3.ownsRow B 29 19 (.slice (some ⟨g, 0, none⟩) (ts.length + 1) cap) (ts.length + 1) (cs ++ news)) (hg : w2.grownBy w3 v.ownBlock) (hat : v.ownBlock = some g ∨ g = w2.heap.size) :
    ArgsIs w3 B (.slice (some ⟨g, 0, none⟩) (ts.length + 1) cap) (cs ++ news) (ts ++ [t]) := by
  have hv : ∀ {b}, v.ownBlock = some b → b < w0.heap.size := fun hb => (h.own.lt _ hb).2
  have hsz := hg.size
  have hbig := h.big
  have hcl := h.own.1
  refine ⟨by simpa using hown, by omega, fun j hj => ?_⟩
  rw [List.length_append, List.length_singleton] at hj
  show TermIs w3 (fun b => B ≤ b ∧ b < w3.heap.size ∧ some b ≠ some g) _ _
  rcases Nat.lt_or_ge j ts.length with hlt | hge
  · rw [List.getElem_append_left hlt, List.drop_append_of_le_length (by omega), List.take_append_of_le_length (by simp; omega)]
    refine ((h.node j hlt).same fun b hb => ?_).sub fun b hb => ⟨hb.1, by omega, fun e => ?_⟩
    · rw [hg.block b (by omega) hb.2.2, hk2 b (by omega), hk1 b hb.2.1]
    · cases e
      rcases hat with hat | hat
      · exact hb.2.2 hat.symm
      · omega
  · obtain rfl : j = ts.length := by omega
    rw [List.getElem_append_right (Nat.le_refl _), List.drop_append, List.drop_eq_nil_of_le (by omega), List.nil_append, show 19 * ts.length - cs.length = 0 by omega, List.drop_zero, List.take_of_length_le (by omega)]
    simp only [Nat.sub_self, List.getElem_cons_zero]
    refine (hn.inside.same fun b hb => ?_).sub fun b hb => ⟨?_, ?_, fun e => ?_⟩
    · have h1 : C ≤ b := hb.1
      have h2 := hb.2
      rw [hg.block b (by omega) (fun e => by have := hv e.symm; omega), hk2 b hb.2]
    · have : C ≤ b := hb.1
      omega
    · have h2 := hb.2
      omega
    · have h1 : C ≤ b := hb.1
      have h2 := hb.2
      cases e
      rcases hat with hat | hat
      · have := hv hat; omega
      · omega
theorem ArgsIs.keep {w w' : World} {B : Nat} {v : Value} {cs : List Value} {ts : List TermD} (h : ArgsIs w B v cs ts) (hs : w.heap.size ≤ w'.heap.size) (hk : ∀ b, B ≤ b → b < w.heap.size → w'.heap[b]? = w.heap[b]?) : ArgsIs w' B v cs ts := by
  refine ⟨⟨h.own.1, ?_⟩, Nat.le_trans h.big hs, fun j hj => ?_⟩
  · rcases h.own.2 with h0 | ⟨g, cap, cur, h1, h2, h3, h4⟩
    · exact .inl h0
    · have hlt : g < w.heap.size := by
        rcases Nat.lt_or_ge g w.heap.size with h | h
        · exact h
        · rw [Array.getElem?_eq_none h] at h3; cases h3
      exact .inr ⟨g, cap, cur, h1, h2, by rw [hk g h2 hlt]; exact h3, h4⟩
  · refine ((h.node j hj).same fun b hb => hk b hb.1 hb.2.1).sub fun b hb => ⟨hb.1, Nat.lt_of_lt_of_le hb.2.1 hs, hb.2.2⟩
theorem owns_slice {w : World} {B : Nat} {e : TypeId} {sz n : Nat} {v : Value} {xs : List Value} (h : w.ownsRow B e sz v n xs) : ∃ p m, v = .slice p n m := by
  rcases h.2 with ⟨h0, h1⟩ | ⟨g, cap, cur, h1, h2, h3, h4⟩
  · exact ⟨none, 0, by rw [h0, h1]⟩
  · exact ⟨_, _, h1⟩
theorem rowAt_own {w : World} {B g n cap : Nat} {e : TypeId} {xs : List Value} (h : w.ownsRow B e 19 (.slice (some ⟨g, 0, none⟩) n cap) n xs) {j : Nat} (hj : j < n) : rowAt w g (0 + 19 * j) 19 = ((xs.drop (19 * j)).take 19).map some := by
  have hl := h.1
  apply List.ext_getElem
  · simp [rowAt]; omega
  · intro i h1 h2
    have hi : i < 19 := by simpa [rowAt] using h1
    have hx : xs[19 * j + i]? = some (xs[19 * j + i]'(by omega)) := List.getElem?_eq_getElem _
    have := own_cell h hx
    simp [rowAt, this]
theorem ArgsIs.term {w w' : World} {B : Nat} {v : Value} {cs : List Value} {s : Scal} {args : List TermD} (h : ArgsIs w B v cs args) (hok : s.OK) (hl : args.length ≤ 1048576) (hk : ∀ b, B ≤ b → b < w.heap.size → w'.heap[b]? = w.heap[b]?) (p : Option Addr) (m : Nat) (hv : v = .slice p args.length m) :
    TermIs w' (fun b => B ≤ b) (.mk s args) ((s.row (.slice p args.length m)).map some) := by
  have h' : ArgsIs { w' with heap := w'.heap } B v cs args ∨ True := .inr trivial
  clear h'
  refine .mk s args p m hok hl (fun hne => ?_) fun b off hpb j hj => ?_
  · rcases h.own.2 with ⟨h0, h1⟩ | ⟨g, cap, cur, h1, h2, h3, h4⟩
    · exact absurd (List.eq_nil_of_length_eq_zero h1) hne
    · rw [hv] at h1
      cases h1
      exact ⟨g, 0, rfl, h2⟩
  · rcases h.own.2 with ⟨h0, h1⟩ | ⟨g, cap, cur, h1, h2, h3, h4⟩
    · omega
    · have hg := lt_of_some h3
      have hown := h.own
      rw [h1] at hown
      rw [hv, hpb] at h1
      cases h1
      rw [rowAt_same (hk b h2 hg), rowAt_own hown hj]
      exact ((h.node j hj).same fun c hc => hk c hc.1 hc.2.1).sub fun c hc => hc.1
def CloneRet (w : World) (s : Scal) (args : List TermD) (e : Ending) (w' : World) : Prop :=
  ∃ p m, e = .returned (.agg (s.arr (.slice p args.length m))) ∧ TermIs w' (fun b => w.heap.size ≤ b) (.mk s args) ((s.row (.slice p args.length m)).map some) ∧ Below w.heap.size w w'
def KidsClone (w : World) (p : Option Addr) (args : List TermD) : Prop :=
  ∀ j (h : j < args.length), ∀ wr, Below w.heap.size w wr → ∃ b o s ar v, p = some ⟨b, o, none⟩ ∧ b < w.heap.size ∧ args[j] = .mk s ar ∧ Cells wr b (o + j * 19) s v ∧ ∀ w2, Below wr.heap.size wr w2 → Calls Tryz.prog 5 #[.agg (s.arr v)] w2 (CloneRet w2 s ar)
theorem clone_step (s : Scal) (args : List TermD) (p : Option Addr) (m : Nat) (w : World) (hok : s.OK) (hl : args.length ≤ 1048576) (hk : KidsClone w p args) :
    Calls Tryz.prog 5 #[.agg (s.arr (.slice p args.length m))] w (CloneRet w s args) := by
  have Hk := Lib.hid hk
  have Hok := Lib.hid hok
  have hs29 := size29
  obtain ⟨i29, hi29, hz29, hs29', hy29⟩ := info_parts info29
  obtain ⟨n, hn⟩ : ∃ n, args.length = n := ⟨_, rfl⟩
  rw [hn] at hl ⊢
  have Hn := Lib.hid hn
  clear hk hok hn
  have hA1 := Scal.arr_size s (.slice p n m)
  go_enter Tryz.func5, Tryz.ntmps5
  clear hs29
  go_wp2_with fail
  go_loopw [3, 4] (fun u i wr => ∃ (j : Nat) (v : Value) (cs : List Value), u = v ∧ j ≤ n ∧ i = .int .i64 j ∧ ArgsIs wr (w.heap.size + 2) v cs (args.take j) ∧ Below w.heap.size w wr ∧ wr.heap[w.heap.size]? = some (.cells (s.arr (.slice p n m)) 29 (0, 0)) ∧ wr.heap[w.heap.size + 1]? = some (.cells zeroTerm 29 (0, 0))) (fun _ i _ => n - (intOf i).toNat)
  case atStart =>
    refine ⟨0, _, [], rfl, Nat.zero_le _, rfl, ?_, ?_, ?_, ?_⟩
    · rw [List.take_zero]; exact ArgsIs.nil (by simp)
    · exact ((Below.refl _ _).alloc (Nat.le_refl _) _).alloc (by simp) _
    · rw [heap_alloc_old]
      · exact heap_alloc_new _ _
      · simp
    · exact heap_alloc2_new _ _ _
  case round =>
    obtain ⟨j, v, cs, hv, hj, rfl, hargs, hbw, hb1, hb2⟩ := hrel
    have hk18 := block18 hb1
    have hjl : (args.take j).length = j := by rw [List.length_take, Hn.out]; omega
    have Hbw := Lib.hid hbw
    have Hb1 := Lib.hid hb1
    have Hb2 := Lib.hid hb2
    have Ha := Lib.hid hargs
    have hlo := lt_of_some hb2
    clear hbw hb1 hb2 hargs
    rcases Nat.lt_or_ge j n with hlt | hge
    · obtain ⟨b, o, s1, as1, v1, rfl, hbl, hge, hcl, hcall⟩ := Hk.out j (by rw [Hn.out]; exact hlt) wr Hbw.out
      have Hcl := Lib.hid hcl
      have Hge := Lib.hid hge
      have Hcall := Lib.hid hcall
      clear hge hcall hcl
      have hown := Ha.out.own
      rw [hjl] at hown
      have Hown := Lib.hid hown
      clear hown
      have hjz : (j : Int) < (n : Int) := by omega
      go_wp2_with (first
        | (refine wpList_load_mid rfl 29 _ rfl b (o + j * 19) rfl (s1.row v1) _ Hcl.out Tryz.underlying29 rfl size29 ?_)
        | (go_at_call 5; refine (Hcall.out _ (Below.refl _ _)).mono ?_; rintro e w5 ⟨p5, m5, rfl, ht5, hb5⟩; have hA5 := Scal.arr_size s1 (.slice p5 as1.length m5))
        | (at_builtin; go_loud (refine wpList_append_lies _ rfl (.tmp 12) (.tmp 19) 27 rfl (w.heap.size + 2) 29 i29 _ 19 176 Tryz.underlying27 hi29 hz29 hs29' hy29 rfl (by omega) v j cs rfl (owns_call Hown.out hb5 _) ⟨w5.heap.size, 0, none⟩ 1 1 ((s1.row (.slice p5 as1.length m5))) rfl rfl (World.news_of_block (heap_alloc_new w5 _)) (Scal.row_one _ _ _ _) (by omega) (by unfold maxLen; omega) (by omega) (by have := hb5.size; simp; omega) (w5.heap.size + 1) (by simp) ?_; intro g cap w6 hown6 hgrow hat hlt6)))
      have hne : ∀ c, c < w.heap.size + 2 → some c ≠ v.ownBlock := fun c hc e => by have := (Hown.out.lt c e.symm).1; omega
      have hx := ArgsIs.next Ha.out (t := .mk s1 as1) (C := wr.heap.size) (w1 := w5) (w2 := w5.alloc (Obj.cells (s1.arr (.slice p5 as1.length m5)) 29)) (w3 := w6) (g := g) (cap := cap) (news := s1.row (.slice p5 as1.length m5)) rfl (Nat.le_refl _) hb5.size hb5.block ht5 (by simp) (fun b hb => heap_alloc_old _ _ hb) (by rw [hjl]; exact hown6) hgrow (by rw [size_alloc'] at *; exact hat)
      rw [hjl, ← Hge.out, ← List.take_succ_eq_append_getElem] at hx
      have e1 := far_block hb5 hgrow Hb1.out (hne _ (by omega))
      have e2 := far_block hb5 hgrow Hb2.out (hne _ (by omega))
      have e3 := below_grow ((Hbw.out.trans (hb5.mono Hbw.out.size)).alloc (Hbw.out.trans (hb5.mono Hbw.out.size)).size _) hgrow (fun c hc => by have := (Hown.out.lt c hc).1; omega)
      exact ⟨⟨j + 1, _, _, rfl, hlt, rfl, hx, e3, e1, e2⟩, round_measure hlt⟩
    · obtain rfl : j = n := by omega
      clear hge
      have hjz : ¬ (j : Int) < (j : Int) := by omega
      have hown := Ha.out.own
      rw [hjl] at hown
      obtain ⟨p2, m2, hv2⟩ := owns_slice hown
      subst hv2
      clear hown
      have hf18 : wr.frozen? ⟨w.heap.size, 18, none⟩ = false := by simp [World.frozen?, Hb1.out]
      have hA2 := Scal.arr_size s (.slice p2 j m2)
      go_wp2_with (first
        | (refine wpList_load_row rfl 29 _ rfl w.heap.size rfl 29 (s.arr (.slice p2 j m2)) (0, 0) _ (set_block Hb1.out _) Tryz.underlying29 rfl size29 ?_)
        | (refine wpList_store_row rfl 29 _ _ rfl (w.heap.size + 1) (s.arr (.slice p2 j m2)) rfl rfl 29 zeroTerm ((set_other _ _ _ (show w.heap.size + 1 ≠ w.heap.size by omega)).trans Hb2.out) size29 rfl (Scal.arr_one _ _ _ _) ?_))
      have h2 := (set_other wr ⟨w.heap.size, 18, none⟩ (.slice p2 j m2) (show w.heap.size + 1 ≠ w.heap.size by omega)).trans Hb2.out
      refine bodyPost_ret (results_cell_row rfl _ _ (w.heap.size + 1) 29 (s.arr (.slice p2 j m2)) _ _ rfl (setRow_heap _ _ _ _ _ _ h2) Tryz.underlying29 rfl size29) rfl ?_
      have hta : args.take j = args := List.take_of_length_le (by rw [Hn.out]; exact Nat.le_refl _)
      have ha := Ha.out
      rw [hta] at ha
      have e : Value.slice p2 j m2 = .slice p2 args.length m2 := by rw [Hn.out]
      have ht := ha.term (w' := (wr.setCell ⟨w.heap.size, 18, none⟩ (.slice p2 j m2)).setRow (w.heap.size + 1) (s.arr (.slice p2 j m2))) Hok.out (by rw [Hn.out]; exact hl) (fun c h1 h3 => by rw [setRow_far _ _ (by omega), set_other _ _ _ (show c ≠ w.heap.size by omega)]) p2 m2 e
      refine ⟨p2, m2, by rw [← e], ht.sub fun c hc => by omega, ?_⟩
      exact below_setRow (set_below Hbw.out (Nat.le_refl _) _) (Nat.le_succ _) _
theorem clone_call {w : World} {t : TermD} {cells : List (Option Value)} (h : TermIs w (Low w.heap.size) t cells) :
    ∀ s args p m, t = .mk s args → cells = (s.row (.slice p args.length m)).map some → ∀ w2, Below w.heap.size w w2 → Calls Tryz.prog 5 #[.agg (s.arr (.slice p args.length m))] w2 (CloneRet w2 s args) := by
  induction h with
  | mk s args p m hok hl hp hk ih =>
    intro s' args' p' m' ht hc w2 hb2
    cases ht
    have hpm : (Value.slice p' args.length m') = .slice p args.length m := by
      have e := congrArg (fun l => l[18]?) hc
      simpa [Scal.row] using e.symm
    rw [hpm]
    refine clone_step s args p m w2 hok hl fun j hj wr hbr => ?_
    obtain ⟨b, o, hpo, hbS⟩ := hp (by intro e; rw [e] at hj; exact absurd hj (Nat.not_lt_zero _))
    have hbS : b < w.heap.size := hbS
    obtain ⟨s1, a1, p1, m1, e1, e2⟩ := (hk b o hpo j hj).cells
    have hs2 := hb2.size
    refine ⟨b, o, s1, a1, .slice p1 a1.length m1, hpo, by omega, e1, ?_, fun w3 hb3 => ?_⟩
    · have hc0 := cells_of e2
      rw [Nat.mul_comm] at hc0
      exact hc0.below ((hbr.block b (by omega)).trans (hb2.block b hbS))
    · have hs3 := hbr.size
      exact ih b o hpo j hj s1 a1 p1 m1 e1 e2 w3 (hb2.trans ((hbr.mono hs2).trans (hb3.mono (by omega))))
end Go.Proofs.YtkeibmkcgnppeaaGreatDoor

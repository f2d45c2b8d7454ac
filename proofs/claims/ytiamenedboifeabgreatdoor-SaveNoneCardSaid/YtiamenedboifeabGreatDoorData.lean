/- What a format holds, out of what is read of it. -/
import Derived.Test.YtiamenedboifeabGreatDoorMaps
import Derived.Test.YtiamenedboifeabGreatDoorMay
import Derived.ProofKit
import Derived.Lib.SmallJoins
import Derived.Laws.Cover2
import Derived.Deep.Slices
namespace Go.Proofs.YtiamenedboifeabGreatDoor
open Go Go.Proofs.YtiamenedboifeabGreatDoor.Rx Go.ChangeShapes Go.WideShapes Go.ChangeAt Go.RowKit
set_option maxRecDepth 100000

theorem cells80 : Tryz.prog.cellsOf 80 = 7 := by kernel_rfl
theorem cells3 : Tryz.prog.cellsOf 3 = 1 := by kernel_rfl
theorem cells9 : Tryz.prog.cellsOf 9 = 1 := by kernel_rfl
theorem cells4 : Tryz.prog.cellsOf 4 = 1 := by kernel_rfl
theorem cells84 : Tryz.prog.cellsOf 84 = 3 := by kernel_rfl
theorem cells28 : Tryz.prog.cellsOf 28 = 1 := by kernel_rfl

theorem open_piece {H : Type} {enc : TypeId × Value → H} {W : World} {base : Nat} {sp : Nat → Bool} {held : Bool} {k : Nat} {cs : List Value} {x : DataW H × List MemPlace} (h : DataW.trod enc Tryz.prog W base sp held k 80 cs = some x) :
    ∃ kd tx mn pl ex gr lo, cs = [.int .i64 kd, .string tx, .int .i64 mn, .int .i64 pl, .int .i64 ex, .bool gr, .bool lo] ∧ tx.size ≤ maxLen := by
  obtain ⟨xs, n, _, rfl, hl, hlen, hf⟩ := DataW.trod_struct Tryz.underlying80 h
  rw [cells80] at hl
  match cs, hl with
  | [c0, c1, c2, c3, c4, c5, c6], _ =>
    match xs, hlen with
    | [y0, y1, y2, y3, y4, y5, y6], _ =>
      have h0 : DataW.trod enc Tryz.prog W base sp held n 3 [c0] = some y0 := by have := hf 0 _ rfl; simpa [cells3] using this
      have h1 : DataW.trod enc Tryz.prog W base sp held n 9 [c1] = some y1 := by have := hf 1 _ rfl; simpa [cells9] using this
      have h2 : DataW.trod enc Tryz.prog W base sp held n 3 [c2] = some y2 := by have := hf 2 _ rfl; simpa [cells3] using this
      have h3 : DataW.trod enc Tryz.prog W base sp held n 3 [c3] = some y3 := by have := hf 3 _ rfl; simpa [cells3] using this
      have h4 : DataW.trod enc Tryz.prog W base sp held n 3 [c4] = some y4 := by have := hf 4 _ rfl; simpa [cells3] using this
      have h5 : DataW.trod enc Tryz.prog W base sp held n 4 [c5] = some y5 := by have := hf 5 _ rfl; simpa [cells4] using this
      have h6 : DataW.trod enc Tryz.prog W base sp held n 4 [c6] = some y6 := by have := hf 6 _ rfl; simpa [cells4] using this
      obtain ⟨kd, e0, _, _⟩ := DataW.trod_int Tryz.underlying3 h0
      obtain ⟨tx, e1, _, hs⟩ := DataW.trod_string Tryz.underlying9 h1
      obtain ⟨mn, e2, _, _⟩ := DataW.trod_int Tryz.underlying3 h2
      obtain ⟨pl, e3, _, _⟩ := DataW.trod_int Tryz.underlying3 h3
      obtain ⟨ex, e4, _, _⟩ := DataW.trod_int Tryz.underlying3 h4
      obtain ⟨gr, e5, _⟩ := DataW.trod_bool Tryz.underlying4 h5
      obtain ⟨lo, e6, _⟩ := DataW.trod_bool Tryz.underlying4 h6
      simp only [List.cons.injEq, and_true] at e0 e1 e2 e3 e4 e5 e6
      subst e0 e1 e2 e3 e4 e5 e6
      exact ⟨kd, tx, mn, pl, ex, gr, lo, rfl, hs⟩

theorem trod_float {H : Type} {enc : TypeId × Value → H} {P : Program} {w : World} {base : Nat} {spare : Nat → Bool} {held : Bool} {fuel : Nat} {t : TypeId} {cs : List Value} {x : DataW H × List MemPlace} {k : FloatKind}
    (ht : P.underlying t = some (.float k)) (h : DataW.trod enc P w base spare held fuel t cs = some x) : ∃ b, cs = [.float k b] ∧ x = (.lit (.float k b), []) ∧ (Lit.float k b).wf = true := by
  cases fuel with
  | zero => simp [DataW.trod] at h
  | succ n =>
    unfold DataW.trod at h
    rw [ht] at h
    split at h <;> simp_all

theorem open_map {H : Type} {enc : TypeId × Value → H} {W : World} {base : Nat} {sp : Nat → Bool} {held : Bool} {k : Nat} {cs : List Value} {x : DataW H × List MemPlace} (h : DataW.trod enc Tryz.prog W base sp held k 84 cs = some x) :
    ∃ op vl ap, cs = [.int .i64 op, .float .f64 vl, .int .i64 ap] ∧ vl < 18446744073709551616 := by
  obtain ⟨xs, n, _, rfl, hl, hlen, hf⟩ := DataW.trod_struct Tryz.underlying84 h
  rw [cells84] at hl
  match cs, hl with
  | [c0, c1, c2], _ =>
    match xs, hlen with
    | [y0, y1, y2], _ =>
      have h0 : DataW.trod enc Tryz.prog W base sp held n 3 [c0] = some y0 := by have := hf 0 _ rfl; simpa [cells3] using this
      have h1 : DataW.trod enc Tryz.prog W base sp held n 28 [c1] = some y1 := by have := hf 1 _ rfl; simpa [cells28] using this
      have h2 : DataW.trod enc Tryz.prog W base sp held n 3 [c2] = some y2 := by have := hf 2 _ rfl; simpa [cells3] using this
      obtain ⟨op, e0, _, _⟩ := DataW.trod_int Tryz.underlying3 h0
      obtain ⟨vl, e1, _, hw⟩ := trod_float Tryz.underlying28 h1
      obtain ⟨ap, e2, _, _⟩ := DataW.trod_int Tryz.underlying3 h2
      simp only [List.cons.injEq, and_true] at e0 e1 e2
      subst e0 e1 e2
      exact ⟨op, vl, ap, rfl, of_decide_eq_true hw⟩

/-- A row that is read lies there, plainly. -/
theorem cells_range {W : World} {base : Nat} {a : Addr} {n : Nat} {cs : List Value} (h : W.cells? base a n = some cs) (hn : 0 < n) : ∃ b off, a = ⟨b, off, none⟩ ∧ b < W.heap.size ∧ W.rangeAt b off cs := by
  unfold World.cells? at h
  split at h
  · have hget : ∀ i, i < n → ∃ v, cs[i]? = some v ∧ W.cell? (a.add i) = some v := by
      intro i hi
      have hl := mapM_some_length h
      rw [List.length_range] at hl
      have := mapM_some_get h i i (by rw [List.getElem?_range hi])
      have hlt : i < cs.length := by omega
      refine ⟨cs[i], List.getElem?_eq_getElem hlt, ?_⟩
      rw [this, List.getElem?_eq_getElem hlt]
    obtain ⟨b, off, sp⟩ := a
    obtain ⟨v0, _, h0⟩ := hget 0 hn
    have hsp : sp = none := by
      cases sp with
      | none => rfl
      | some q =>
        simp only [Addr.add, World.cell?] at h0
        split at h0 <;> simp at h0
    subst hsp
    refine ⟨b, off, rfl, ?_, fun j v hj => ?_⟩
    · rcases Nat.lt_or_ge b W.heap.size with hb | hb
      · exact hb
      · rw [add_plain] at h0
        simp [World.cell?, Array.getElem?_eq_none hb] at h0
    · have hl := mapM_some_length h
      rw [List.length_range] at hl
      have hjl : j < n := by
        rcases Nat.lt_or_ge j cs.length with hb | hb
        · omega
        · rw [List.getElem?_eq_none hb] at hj; cases hj
      obtain ⟨v', h1, h2⟩ := hget j hjl
      rw [hj, Option.some.injEq] at h1
      subst h1
      rw [add_plain] at h2
      exact h2
  · cases h

/-- A slice that is read: how long it is, and its elements where they lie. -/
theorem slice_el {H : Type} {enc : TypeId × Value → H} {W : World} {sp : Nat → Bool} {held : Bool} {k : Nat} {v : Value} {x : DataW H × List MemPlace} {t e : TypeId} (ht : Tryz.prog.underlying t = some (.slice e)) (hsz : 0 < Tryz.prog.cellsOf e)
    (h : DataW.trod enc Tryz.prog W 0 sp held k t [v] = some x) :
    ∃ n : Nat, SlOK v n ∧ ∀ i : Nat, i < n → ∃ ev cs, (∀ j : Int, j = i → ElOK W v j ev (Tryz.prog.cellsOf e) cs) ∧ ∃ k' y, DataW.trod enc Tryz.prog W 0 sp held k' e cs = some y := by
  rcases Go.Deep.open_slice ht h with ⟨h0, _⟩ | ⟨a, len, cap, m, n, D, Pl, h0, _, hlc, _, hm, _, hel⟩
  · simp only [List.cons.injEq, and_true] at h0
    subst h0
    exact ⟨0, ⟨none, 0, 0, rfl, rfl⟩, fun i hi => by omega⟩
  · simp only [List.cons.injEq, and_true] at h0
    subst h0
    refine ⟨len, ⟨some a, len, cap, rfl, rfl⟩, fun i hi => ?_⟩
    have him : i < m := by rw [hm]; split <;> omega
    obtain ⟨c0, h10, _⟩ := hel 0 (by omega)
    obtain ⟨b, off, ha, hb, _⟩ := cells_range h10 hsz
    have ha' : a = ⟨b, off, none⟩ := by rw [← ha]; simp [Addr.add]
    subst ha'
    obtain ⟨cs, h1, h2⟩ := hel i him
    obtain ⟨b', off', hb', hlt, hr⟩ := cells_range h1 hsz
    rw [add_plain] at hb'
    simp only [Addr.mk.injEq, and_true] at hb'
    obtain ⟨rfl, rfl⟩ := hb'
    exact ⟨_, cs, fun j hj => ⟨b, off, len, cap, i, rfl, hj, hi, rfl, hlt, hr⟩, _, _, h2⟩

theorem cells25 : Tryz.prog.cellsOf 25 = 4 := by kernel_rfl
theorem cells22 : Tryz.prog.cellsOf 22 = 1 := by kernel_rfl
theorem cells23 : Tryz.prog.cellsOf 23 = 1 := by kernel_rfl

/-- What a format is, opened. -/
theorem open_format {H : Type} {enc : TypeId × Value → H} {W : World} {sp : Nat → Bool} {held : Bool} {k : Nat} {cs : List Value} {x : DataW H × List MemPlace} (h : DataW.trod enc Tryz.prog W 0 sp held k 25 cs = some x) :
    ∃ kk p q wh, cs = [.int .i64 kk, p, q, .bool wh] ∧ (∃ k' y, DataW.trod enc Tryz.prog W 0 sp held k' 22 [p] = some y) ∧ ∃ k' y, DataW.trod enc Tryz.prog W 0 sp held k' 23 [q] = some y := by
  obtain ⟨xs, n, _, rfl, hl, hlen, hf⟩ := DataW.trod_struct Tryz.underlying25 h
  rw [cells25] at hl
  match cs, hl with
  | [c0, c1, c2, c3], _ =>
    match xs, hlen with
    | [y0, y1, y2, y3], _ =>
      have h0 : DataW.trod enc Tryz.prog W 0 sp held n 3 [c0] = some y0 := by have := hf 0 _ rfl; simpa [cells3] using this
      have h1 : DataW.trod enc Tryz.prog W 0 sp held n 22 [c1] = some y1 := by have := hf 1 _ rfl; simpa [cells22] using this
      have h2 : DataW.trod enc Tryz.prog W 0 sp held n 23 [c2] = some y2 := by have := hf 2 _ rfl; simpa [cells23] using this
      have h3 : DataW.trod enc Tryz.prog W 0 sp held n 4 [c3] = some y3 := by have := hf 3 _ rfl; simpa [cells4] using this
      obtain ⟨kk, e0, _, _⟩ := DataW.trod_int Tryz.underlying3 h0
      obtain ⟨wh, e3, _⟩ := DataW.trod_bool Tryz.underlying4 h3
      simp only [List.cons.injEq, and_true] at e0 e3
      subst e0 e3
      exact ⟨kk, c1, c2, wh, rfl, ⟨n, y1, h1⟩, n, y2, h2⟩

/-- THE DATA OF A FORMAT. -/
theorem fd_of {H : Type} {enc : TypeId × Value → H} {W : World} (hg : Consts W) (hT : Tabs W) {sp : Nat → Bool} {held : Bool} {k : Nat} {cs : List Value} {x : DataW H × List MemPlace} (h : DataW.trod enc Tryz.prog W 0 sp held k 25 cs = some x) :
    ∃ D : FD, cs = [.int .i64 D.k, D.p, D.q, .bool D.wh] ∧ SlOK D.p D.n ∧ SlOK D.q D.m ∧ (D.n ≤ 64 → D.m ≤ 8 → 0 ≤ D.k → D.k ≤ 7 → D.OK W) := by
  obtain ⟨kk, p, q, wh, rfl, ⟨k1, y1, h1⟩, k2, y2, h2⟩ := open_format h
  obtain ⟨n, sp1, el1⟩ := slice_el Tryz.underlying22 (by rw [cells80]; decide) h1
  obtain ⟨m, sq1, el2⟩ := slice_el Tryz.underlying23 (by rw [cells84]; decide) h2
  have hP : ∀ i : Nat, ∃ P : Pc, i < n → (∀ j : Int, j = i → ElOK W p j P.e 7 [.int .i64 P.kd, .string P.tx, .int .i64 P.mn, .int .i64 P.pl, .int .i64 P.ex, .bool P.gr, .bool P.lo]) ∧ P.tx.size ≤ maxLen := by
    intro i
    by_cases hi : i < n
    · obtain ⟨ev, cs', h3, k', y, h4⟩ := el1 i hi
      obtain ⟨kd, tx, mn, pl, ex, gr, lo, rfl, hs⟩ := open_piece h4
      rw [cells80] at h3
      exact ⟨⟨ev, kd, tx, mn, pl, ex, gr, lo⟩, fun _ => ⟨h3, hs⟩⟩
    · exact ⟨⟨.bool false, 0, ⟨#[]⟩, 0, 0, 0, false, false⟩, fun h => absurd h hi⟩
  have hM : ∀ i : Nat, ∃ M : Mp, i < m → (∀ j : Int, j = i → ElOK W q j M.e 3 [.int .i64 M.op, .float .f64 M.vl, .int .i64 M.ap]) ∧ M.vl < 18446744073709551616 := by
    intro i
    by_cases hi : i < m
    · obtain ⟨ev, cs', h3, k', y, h4⟩ := el2 i hi
      obtain ⟨op, vl, ap, rfl, hs⟩ := open_map h4
      rw [cells84] at h3
      exact ⟨⟨ev, op, vl, ap⟩, fun _ => ⟨h3, hs⟩⟩
    · exact ⟨⟨.bool false, 0, 0, 0⟩, fun h => absurd h hi⟩
  obtain ⟨P, hP⟩ := Classical.axiomOfChoice hP
  obtain ⟨M, hM⟩ := Classical.axiomOfChoice hM
  have hgd : ∀ i : Nat, ∃ b, 0 ≤ kk → kk ≤ 7 → Both W 37 21 #[.int .i64 kk, .int .i64 (P i).kd] b := by
    intro i
    by_cases hk : 0 ≤ kk ∧ kk ≤ 7
    · obtain ⟨b, hb⟩ := may_calls hg kk (P i).kd hk.1 hk.2
      exact ⟨b, fun _ _ => hb⟩
    · exact ⟨false, fun a b => absurd ⟨a, b⟩ hk⟩
  have hrd : ∀ i : Nat, ∃ b, i < n → Both W 38 22 #[prow (P i).kd (P i).mn (P i).pl (P i).ex (P i).tx (P i).gr (P i).lo] b := by
    intro i
    by_cases hi : i < n
    · obtain ⟨b, hb⟩ := piece_calls hg hT (P i).kd (P i).mn (P i).pl (P i).ex (P i).tx (P i).gr (P i).lo (by have := (hP i hi).2; unfold maxLen at this; omega)
      exact ⟨b, fun _ => hb⟩
    · exact ⟨false, fun h => absurd h hi⟩
  obtain ⟨gd, hgd⟩ := Classical.axiomOfChoice hgd
  obtain ⟨rd, hrd⟩ := Classical.axiomOfChoice hrd
  let D0 : FD := ⟨kk, p, q, wh, n, m, P, M, gd, rd, fun _ => false⟩
  have hbd : ∀ j : Nat, ∃ r, j < m → ∃ cl fs, ClOK W (M j).vl cl ∧ (∀ b, ∀ f ∈ fs, f.1.ev (symTab b (D0.s2 j (D0.cnt n)).vals) = some (.bool f.2)) ∧ ∀ sy old, chkM r (senv none none false true cl sy old fs) = true := by
    intro j
    by_cases hj : j < m
    · obtain ⟨r, cl, fs, a, b, c⟩ := map_any (S := D0.s2 j (D0.cnt n)) hg (show ((j : Nat) : Int) < (m : Int) by omega) (hM j hj).2
      exact ⟨r, fun _ => ⟨cl, fs, a, b, c⟩⟩
    · exact ⟨false, fun h => absurd h hj⟩
  obtain ⟨bd, hbd⟩ := Classical.axiomOfChoice hbd
  have hcnt : ∀ i, FD.cnt ⟨kk, p, q, wh, n, m, P, M, gd, rd, bd⟩ i = D0.cnt i := by
    intro i
    induction i with
    | zero => rfl
    | succ i ih => simp only [FD.cnt, ih]; rfl
  refine ⟨⟨kk, p, q, wh, n, m, P, M, gd, rd, bd⟩, rfl, sp1, sq1, fun hn hm h0 h7 => ⟨hg, sp1, sq1, hn, hm, h0, h7, fun i c hi => (hP i hi).1 i rfl, fun j c hj => (hM j hj).1 j rfl, fun i _ => hgd i h0 h7, fun i hi => hrd i hi, fun j hj => ?_⟩⟩
  obtain ⟨cl, fs, a, b, c⟩ := hbd j hj
  refine ⟨cl, fs, a, ?_, c⟩
  rw [hcnt]
  exact b
end Go.Proofs.YtiamenedboifeabGreatDoor

/- A term s data. -/
import Derived.Test.YtkeibmkcgnppeaaGreatDoorZHt
import Derived.Test.YtkeibmkcgnppeaaGreatDoorZPo
set_option maxHeartbeats 32000000
namespace Go.Proofs.YtkeibmkcgnppeaaGreatDoor
open Go Go.Proofs.YtkeibmkcgnppeaaGreatDoor.Rx Go.ChangeShapes Go.WideShapes Go.ChangeAt Go.RowKit
set_option maxRecDepth 100000
theorem cells29 : Tryz.prog.cellsOf 29 = 19 := by kernel_rfl
theorem cells26 : Tryz.prog.cellsOf 26 = 12 := by kernel_rfl
theorem cells24 : Tryz.prog.cellsOf 24 = 4 := by kernel_rfl
theorem cells27 : Tryz.prog.cellsOf 27 = 1 := by kernel_rfl
theorem bulk_pos {H : Type} (d : DataW H) : 1 ≤ Rows.uptoBulk d := by
  cases d with
  | lit l => cases l <;> simp [Rows.uptoBulk]
  | _ => simp [Rows.uptoBulk]
theorem bulk_len {H : Type} : ∀ l : List (DataW H), l.length ≤ Rows.uptoBulkAll l
  | [] => Nat.le_refl _
  | d :: r => by
    have := bulk_len r
    have := bulk_pos d
    simp only [List.length_cons, Rows.uptoBulkAll]
    omega
theorem bulk_mem {H : Type} : ∀ {l : List (DataW H)} {d : DataW H}, d ∈ l → Rows.uptoBulk d ≤ Rows.uptoBulkAll l
  | e :: r, d, h => by
    simp only [Rows.uptoBulkAll]
    rcases List.mem_cons.1 h with rfl | h
    · omega
    · have := bulk_mem h
      omega
theorem wts_bulk {H : Type} (T : Nat → TermD) (D : Nat → DataW H) : ∀ l : List Nat, (∀ i ∈ l, (T i).wt ≤ Rows.uptoBulk (D i)) → wts (l.map T) ≤ Rows.uptoBulkAll (l.map D)
  | [], _ => Nat.le_refl _
  | i :: r, h => by
    have h1 := h i (List.mem_cons_self ..)
    have h2 := wts_bulk T D r fun j hj => h j (List.mem_cons_of_mem _ hj)
    simp only [List.map_cons, wts, Rows.uptoBulkAll]
    omega
theorem row_range {W : World} {b o : Nat} {cs : List Value} (h : W.rangeAt b o cs) {n : Nat} (hn : cs.length = n) : rowAt W b o n = cs.map some := by
  subst hn
  refine List.ext_getElem? fun j => ?_
  rcases Nat.lt_or_ge j cs.length with hj | hj
  · have := h j cs[j] (List.getElem?_eq_getElem hj)
    simp [rowAt, hj, this]
  · simp [rowAt, hj]
theorem term_of {H : Type} {enc : TypeId × Value → H} {W : World} {sp : Nat → Bool} {held : Bool} : ∀ (N k : Nat) (cs : List Value) (x : DataW H × List MemPlace),
    DataW.trod enc Tryz.prog W 0 sp held k 29 cs = some x → Rows.uptoBulk x.1 ≤ N → N ≤ 1048576 →
    ∃ (s : Scal) (args : List TermD) (p : Option Addr) (m : Nat), cs = s.row (.slice p args.length m) ∧ TermIs W (Low W.heap.size) (.mk s args) (cs.map some) ∧ (TermD.mk s args).wt ≤ Rows.uptoBulk x.1
  | 0, _, _, x, _, hb, _ => absurd (bulk_pos x.1) (by omega)
  | N + 1, k, cs, x, h, hb, hN => by
    have ih := fun k' cs' x' (h' : DataW.trod enc Tryz.prog W 0 sp held k' 29 cs' = some x') hb' => term_of N k' cs' x' h' hb' (by omega)
    obtain ⟨xs, n, _, rfl, hl, hlen, hf⟩ := DataW.trod_struct Tryz.underlying29 h
    rw [cells29] at hl
    match cs, hl with
    | [c0, c1, c2, c3, c4, c5, c6, c7, c8, c9, c10, c11, c12, c13, c14, c15, c16, c17, c18], _ =>
      match xs, hlen with
      | [y0, y1, y2, y3, y4, y5, y6, y7], _ =>
        have h0 : DataW.trod enc Tryz.prog W 0 sp held n 3 [c0] = some y0 := by have := hf 0 _ rfl; simpa [Ck.cells3] using this
        have h1 : DataW.trod enc Tryz.prog W 0 sp held n 22 [c1] = some y1 := by have := hf 1 _ rfl; simpa [Ck.cells28] using this
        have h2 : DataW.trod enc Tryz.prog W 0 sp held n 9 [c2] = some y2 := by have := hf 2 _ rfl; simpa [Ck.cells9] using this
        have h3 : DataW.trod enc Tryz.prog W 0 sp held n 3 [c3] = some y3 := by have := hf 3 _ rfl; simpa [Ck.cells3] using this
        have h4 : DataW.trod enc Tryz.prog W 0 sp held n 9 [c4] = some y4 := by have := hf 4 _ rfl; simpa [Ck.cells9] using this
        have h5 : DataW.trod enc Tryz.prog W 0 sp held n 26 [c5, c6, c7, c8, c9, c10, c11, c12, c13, c14, c15, c16] = some y5 := by have := hf 5 _ rfl; simpa [cells26] using this
        have h6 : DataW.trod enc Tryz.prog W 0 sp held n 3 [c17] = some y6 := by have := hf 6 _ rfl; simpa [Ck.cells3] using this
        have h7 : DataW.trod enc Tryz.prog W 0 sp held n 27 [c18] = some y7 := by have := hf 7 _ rfl; simpa [cells27] using this
        clear hf
        obtain ⟨zs, n5, _, rfl, _, hlen5, hf5⟩ := DataW.trod_struct Tryz.underlying26 h5
        match zs, hlen5 with
        | [z0, z1, z2, z3, z4, z5], _ =>
          dsimp only at hb ⊢
          have g0 : DataW.trod enc Tryz.prog W 0 sp held n5 9 [c5] = some z0 := by have := hf5 0 _ rfl; simpa [Ck.cells9] using this
          have g1 : DataW.trod enc Tryz.prog W 0 sp held n5 9 [c6] = some z1 := by have := hf5 1 _ rfl; simpa [Ck.cells9] using this
          have g2 : DataW.trod enc Tryz.prog W 0 sp held n5 4 [c7] = some z2 := by have := hf5 2 _ rfl; simpa [Ck.cells4] using this
          have g3 : DataW.trod enc Tryz.prog W 0 sp held n5 4 [c8] = some z3 := by have := hf5 3 _ rfl; simpa [Ck.cells4] using this
          have g4 : DataW.trod enc Tryz.prog W 0 sp held n5 24 [c9, c10, c11, c12] = some z4 := by have := hf5 4 _ rfl; simpa [cells24] using this
          have g5 : DataW.trod enc Tryz.prog W 0 sp held n5 24 [c13, c14, c15, c16] = some z5 := by have := hf5 5 _ rfl; simpa [cells24] using this
          clear hf5
          have corner : ∀ {a b c d : Value} {z : DataW H × List MemPlace}, DataW.trod enc Tryz.prog W 0 sp held n5 24 [a, b, c, d] = some z → ∃ (i j : Int) (u v : Bool), a = .int .i64 i ∧ b = .int .i64 j ∧ c = .bool u ∧ d = .bool v := by
            intro a b c d z hz
            obtain ⟨ws, n6, _, rfl, _, hlen6, hf6⟩ := DataW.trod_struct Tryz.underlying24 hz
            match ws, hlen6 with
            | [w0, w1, w2, w3], _ =>
              have k0 : DataW.trod enc Tryz.prog W 0 sp held n6 3 [a] = some w0 := by have := hf6 0 _ rfl; simpa [Ck.cells3] using this
              have k1 : DataW.trod enc Tryz.prog W 0 sp held n6 3 [b] = some w1 := by have := hf6 1 _ rfl; simpa [Ck.cells3] using this
              have k2 : DataW.trod enc Tryz.prog W 0 sp held n6 4 [c] = some w2 := by have := hf6 2 _ rfl; simpa [Ck.cells4] using this
              have k3 : DataW.trod enc Tryz.prog W 0 sp held n6 4 [d] = some w3 := by have := hf6 3 _ rfl; simpa [Ck.cells4] using this
              obtain ⟨i, e0, _, _⟩ := DataW.trod_int Tryz.underlying3 k0
              obtain ⟨j, e1, _, _⟩ := DataW.trod_int Tryz.underlying3 k1
              obtain ⟨u, e2, _⟩ := DataW.trod_bool Tryz.underlying4 k2
              obtain ⟨v, e3, _⟩ := DataW.trod_bool Tryz.underlying4 k3
              simp only [List.cons.injEq, and_true] at e0 e1 e2 e3
              exact ⟨i, j, u, v, e0, e1, e2, e3⟩
          obtain ⟨op, e0, _, _⟩ := DataW.trod_int Tryz.underlying3 h0
          obtain ⟨num, e1, _, w1⟩ := Ck.trod_float Tryz.underlying22 h1
          obtain ⟨tx, e2, b2, _⟩ := DataW.trod_string Tryz.underlying9 h2
          obtain ⟨er, e3, _, _⟩ := DataW.trod_int Tryz.underlying3 h3
          obtain ⟨nm, e4, b4, _⟩ := DataW.trod_string Tryz.underlying9 h4
          obtain ⟨rs, e5, b5, _⟩ := DataW.trod_string Tryz.underlying9 g0
          obtain ⟨rt, e6, b6, _⟩ := DataW.trod_string Tryz.underlying9 g1
          obtain ⟨rf, e7, _⟩ := DataW.trod_bool Tryz.underlying4 g2
          obtain ⟨ra, e8, _⟩ := DataW.trod_bool Tryz.underlying4 g3
          obtain ⟨a0, a1, a2, a3, e9, e10, e11, e12⟩ := corner g4
          obtain ⟨b0, b1, b2', b3, e13, e14, e15, e16⟩ := corner g5
          obtain ⟨rw', e17, _, _⟩ := DataW.trod_int Tryz.underlying3 h6
          simp only [List.cons.injEq, and_true] at e0 e1 e2 e3 e4 e5 e6 e7 e8 e17
          have key : ∀ s : Scal, s = ⟨op, num, tx, er, nm, rs, rt, rf, ra, a0, a1, a2, a3, b0, b1, b2', b3, rw'⟩ → ∀ v, [c0, c1, c2, c3, c4, c5, c6, c7, c8, c9, c10, c11, c12, c13, c14, c15, c16, c17, v] = s.row v := by
            rintro s rfl v
            subst e0 e1 e2 e3 e4 e5 e6 e7 e8 e9 e10 e11 e12 e13 e14 e15 e16 e17
            rfl
          have hbz : Rows.uptoBulk (DataW.agg ([y0, y1, y2, y3, y4, (DataW.agg (([z0, z1, z2, z3, z4, z5] : List (DataW H × List MemPlace)).map (·.1)), ([z0, z1, z2, z3, z4, z5] : List (DataW H × List MemPlace)).flatMap (·.2)), y6, y7].map (·.1))) ≥
              (tx.size + 1) + (nm.size + 1) + (rs.size + 1) + (rt.size + 1) + Rows.uptoBulk y7.1 + 1 := by
            simp only [List.map_cons, List.map_nil, Rows.uptoBulk, Rows.uptoBulkAll, b2, b4, b5, b6, Array.length_toList]
            have : ∀ s : ByteArray, s.data.size = s.size := fun _ => rfl
            simp only [this]
            omega
          have hok : Scal.OK ⟨op, num, tx, er, nm, rs, rt, rf, ra, a0, a1, a2, a3, b0, b1, b2', b3, rw'⟩ := by
            refine ⟨of_decide_eq_true w1, ?_, ?_, ?_, ?_⟩ <;> (dsimp only; omega)
          clear corner h0 h1 h2 h3 h4 h5 h6 g0 g1 g2 g3 g4 g5 h
          obtain ⟨s, hs⟩ : ∃ s : Scal, s = ⟨op, num, tx, er, nm, rs, rt, rf, ra, a0, a1, a2, a3, b0, b1, b2', b3, rw'⟩ := ⟨_, rfl⟩
          rw [← hs] at hok
          have hrow := key s hs
          clear key hs
          rcases Go.Deep.open_slice Tryz.underlying27 h7 with ⟨e18, _⟩ | ⟨a, len, cap, m, n7, D, Pl, e18, _, hlc, _, hm, hy7, hel⟩
          · simp only [List.cons.injEq, and_true] at e18
            subst e18
            refine ⟨s, [], none, 0, hrow _, ?_, by simp only [TermD.wt, wts]; omega⟩
            rw [hrow]
            exact .mk s [] none 0 hok (Nat.zero_le _) (fun h => absurd rfl h) (fun b off h => by cases h)
          · simp only [List.cons.injEq, and_true] at e18
            subst e18
            have hlm : len ≤ m := by rw [hm]; split <;> omega
            have hb7 : Rows.uptoBulkAll ((List.range len).map D) + 1 ≤ Rows.uptoBulk y7.1 := by
              rw [hy7]
              simp only [Rows.uptoBulk]
              omega
            have hDi : ∀ i, i < len → Rows.uptoBulk (D i) ≤ Rows.uptoBulkAll ((List.range len).map D) := fun i hi => bulk_mem (List.mem_map.2 ⟨i, List.mem_range.2 hi, rfl⟩)
            have hch : ∀ i : Nat, ∃ t : TermD, i < len → (∃ cs', W.cells? 0 (a.add (i * Tryz.prog.cellsOf 29)) (Tryz.prog.cellsOf 29) = some cs' ∧ TermIs W (Low W.heap.size) t (cs'.map some)) ∧ t.wt ≤ Rows.uptoBulk (D i) := by
              intro i
              by_cases hi : i < len
              · obtain ⟨cs', k1, k2⟩ := hel i (by omega)
                obtain ⟨s', args', p', m', _, k4, k5⟩ := ih _ _ _ k2 (by have := hDi i hi; show Rows.uptoBulk (D i) ≤ N; omega)
                exact ⟨_, fun _ => ⟨⟨cs', k1, k4⟩, k5⟩⟩
              · exact ⟨.mk s [], fun h => absurd h hi⟩
            obtain ⟨T, hT⟩ := Classical.axiomOfChoice hch
            have hlen' : ((List.range len).map T).length = len := by simp
            have hwt := wts_bulk T D (List.range len) fun i hi => (hT i (List.mem_range.1 hi)).2
            have hll := bulk_len ((List.range len).map D)
            simp only [List.length_map, List.length_range] at hll
            refine ⟨s, (List.range len).map T, some a, cap, by rw [hlen']; exact hrow _, ?_, by simp only [TermD.wt]; omega⟩
            rw [hrow]
            have e : (Value.slice (some a) len cap) = .slice (some a) ((List.range len).map T).length cap := by rw [hlen']
            rw [e]
            have hz : 0 < Tryz.prog.cellsOf 29 := by rw [cells29]; decide
            refine .mk s _ (some a) cap hok (by rw [hlen']; omega) (fun hne => ?_) (fun b off hab j hj => ?_)
            · have h0 : 0 < len := by
                rcases Nat.eq_zero_or_pos len with h | h
                · subst h; exact absurd rfl hne
                · exact h
              obtain ⟨⟨cs', k1, _⟩, _⟩ := hT 0 h0
              obtain ⟨b, off, ha, hb, _⟩ := Ck.cells_range k1 hz
              have ha' : a = ⟨b, off, none⟩ := by rw [← ha]; simp [Addr.add]
              exact ⟨b, off, by rw [ha'], hb⟩
            · have hj' : j < len := by rw [hlen'] at hj; exact hj
              obtain ⟨⟨cs', k1, k2⟩, _⟩ := hT j hj'
              obtain ⟨b', off', ha, hb, hr⟩ := Ck.cells_range k1 hz
              cases hab
              rw [add_plain] at ha
              simp only [Addr.mk.injEq, and_true] at ha
              obtain ⟨rfl, rfl⟩ := ha
              have hl := (World.cells?_some k1).2.1
              rw [cells29] at hl
              rw [cells29, Nat.mul_comm] at hr
              rw [row_range hr hl]
              simpa using k2
end Go.Proofs.YtkeibmkcgnppeaaGreatDoor

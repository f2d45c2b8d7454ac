/- A reflective evaluator of the model's code, part R: an environment out of a seat's facts; the cells of the listed variables. -/
import Derived.Test.YtiamenedboifeabGreatDoorRxQ
import Derived.ChangeArms
import Derived.OpenShut
import Derived.FnData
namespace Go.Proofs.YtiamenedboifeabGreatDoor.Rx

/-- What every entry of a trie has. -/
def T.All {α : Type} (p : Nat → α → Prop) : Nat → Nat → T α → Prop
  | _, _, .leaf => True
  | a, m, .node v l r => (match v with | some x => p a x | none => True) ∧ T.All p a (m + m) l ∧ T.All p (a + m) (m + m) r

theorem T.All.get {α : Type} {p : Nat → α → Prop} : ∀ {t : T α} {a m : Nat}, T.All p a m t → ∀ {n : Nat} {x : α}, t.get n = some x → p (a + m * n) x
  | .leaf, _, _, _, _, _, h => by simp at h
  | .node v l r, a, m, hp, n, x, h => by
    simp only [T.All] at hp
    obtain ⟨h1, h2, h3⟩ := hp
    simp only [T.get, T.beq0] at h
    by_cases h0 : n = 0
    · subst h0
      simp only [decide_true, cond_true] at h
      subst h
      simpa using h1
    · by_cases he : n % 2 = 0
      · simp only [h0, he, decide_false, cond_false, decide_true, cond_true] at h
        have := h2.get h
        have e : a + (m + m) * (n / 2) = a + m * n := by
          have : n = 2 * (n / 2) := by omega
          rw [← Nat.two_mul, Nat.mul_comm 2 m, Nat.mul_assoc, ← this]
        rwa [e] at this
      · simp only [h0, he, decide_false, cond_false] at h
        have := h3.get h
        have e : a + m + (m + m) * (n / 2) = a + m * n := by
          have k : n = 2 * (n / 2) + 1 := by omega
          have : m * n = m * (2 * (n / 2)) + m := by rw [← Nat.mul_succ, Nat.succ_eq_add_one, ← k]
          rw [this, ← Nat.two_mul, Nat.mul_comm 2 m, Nat.mul_assoc]
          omega
        rwa [e] at this

/-- The cell of a struct's field. -/
def fieldAt (c : TypeId → DataW Unit → Nat → Option Value) (sz : TypeId → Nat) (off : Nat) : List Field → List (DataW Unit) → Option Value
  | f :: fs, d :: ds => cond (Nat.ble f.offset off && Nat.blt off (f.offset + sz f.type)) (c f.type d (off - f.offset)) (fieldAt c sz off fs ds)
  | _, _ => none

/-- The cell of a plain datum. -/
def cellAt (P : Program) : Nat → TypeId → DataW Unit → Nat → Option Value
  | 0, _, _, _ => none
  | k + 1, t, d, off => match P.underlying t with
    | some .bool => match d with
      | .lit (.bool b) => cond (Nat.beq off 0) (some (.bool b)) none
      | _ => none
    | some (.int _) => match d with
      | .lit (.int i n) => cond (Nat.beq off 0) (some (.int i n)) none
      | _ => none
    | some (.float _) => match d with
      | .lit (.float i n) => cond (Nat.beq off 0) (some (.float i n)) none
      | _ => none
    | some (.array _ e) => match d with
      | .agg ds => match ds[off / P.cellsOf e]? with
        | some d' => cond (Nat.blt (off % P.cellsOf e) (P.cellsOf e)) (cellAt P k e d' (off % P.cellsOf e)) none
        | none => none
      | _ => none
    | some (.struct fs) => match d with
      | .agg ds => fieldAt (fun t d o => cellAt P k t d o) (fun t => P.cellsOf t) off fs.toList ds
      | _ => none
    | _ => none

theorem fieldAt_some {c : TypeId → DataW Unit → Nat → Option Value} {sz : TypeId → Nat} {off : Nat} {v : Value} : ∀ {fs : List Field} {ds : List (DataW Unit)}, fieldAt c sz off fs ds = some v →
    ∃ (i : Nat) (f : Field) (d : DataW Unit), fs[i]? = some f ∧ ds[i]? = some d ∧ f.offset ≤ off ∧ off < f.offset + sz f.type ∧ c f.type d (off - f.offset) = some v
  | [], _, h => by simp [fieldAt] at h
  | _ :: _, [], h => by simp [fieldAt] at h
  | f :: fs, d :: ds, h => by
    simp only [fieldAt] at h
    cases hb : (Nat.ble f.offset off && Nat.blt off (f.offset + sz f.type)) with
    | true =>
      rw [hb] at h
      simp only [cond_true] at h
      simp only [Bool.and_eq_true, Nat.ble_eq, Nat.blt_eq] at hb
      exact ⟨0, f, d, rfl, rfl, hb.1, hb.2, h⟩
    | false =>
      rw [hb] at h
      simp only [cond_false] at h
      obtain ⟨i, f', d', h1, h2, h3⟩ := fieldAt_some h
      exact ⟨i + 1, f', d', by simpa using h1, by simpa using h2, h3⟩

theorem take_drop_get {α : Type} {cs : List α} {a n i : Nat} {v : α} (h : ((cs.drop a).take n)[i]? = some v) : cs[a + i]? = some v := by
  rw [List.getElem?_take] at h
  split at h
  · rw [List.getElem?_drop] at h; exact h
  · cases h

theorem cellAt_ok {P : Program} {w : World} {base : Nat} {sp : Nat → Bool} {held : Bool} {enc : TypeId × Value → Unit} : ∀ (k : Nat) {t : TypeId} {d : DataW Unit} {off : Nat} {v : Value}, cellAt P k t d off = some v →
    ∀ (fuel : Nat) (cs : List Value) (p : List MemPlace), DataW.trod enc P w base sp held fuel t cs = some (d, p) → cs[off]? = some v
  | 0, _, _, _, _, h => by simp [cellAt] at h
  | k + 1, t, d, off, v, h => by
    intro fuel cs p hd
    have z : ∀ {x : Value}, cond (Nat.beq off 0) (some x) none = some v → off = 0 ∧ x = v := by
      intro x hx
      cases hb : Nat.beq off 0 with
      | true => rw [hb] at hx; simp only [cond_true, Option.some.injEq] at hx; exact ⟨by simpa using hb, hx⟩
      | false => rw [hb] at hx; simp at hx
    simp only [cellAt] at h
    split at h
    · rename_i ht
      split at h
      · rename_i b
        obtain ⟨rfl, rfl⟩ := z h
        obtain ⟨b', rfl, e⟩ := DataW.trod_bool ht hd
        simp only [Prod.mk.injEq, DataW.lit.injEq, Lit.bool.injEq] at e
        rw [e.1]
        rfl
      · cases h
    · rename_i ik ht
      split at h
      · rename_i i n
        obtain ⟨rfl, rfl⟩ := z h
        obtain ⟨b', rfl, e, _⟩ := DataW.trod_int ht hd
        simp only [Prod.mk.injEq, DataW.lit.injEq, Lit.int.injEq] at e
        rw [e.1.1, e.1.2]
        rfl
      · cases h
    · rename_i ik ht
      split at h
      · rename_i i n
        obtain ⟨rfl, rfl⟩ := z h
        cases fuel with
        | zero => simp [DataW.trod] at hd
        | succ m =>
          unfold DataW.trod at hd
          rw [ht] at hd
          split at hd <;> simp_all
      · cases h
    · rename_i n e ht
      split at h
      · rename_i ds
        split at h
        · rename_i d' hd'
          cases hb : Nat.blt (off % P.cellsOf e) (P.cellsOf e) with
          | false => rw [hb] at h; simp at h
          | true =>
            rw [hb] at h
            simp only [cond_true] at h
            obtain ⟨xs, m, rfl, e1, _, hl, hel⟩ := DataW.trod_array ht hd
            simp only [Prod.mk.injEq, DataW.agg.injEq] at e1
            rw [e1.1, List.getElem?_map] at hd'
            cases hx : xs[off / P.cellsOf e]? with
            | none => rw [hx] at hd'; cases hd'
            | some y =>
              rw [hx] at hd'
              simp only [Option.map_some, Option.some.injEq] at hd'
              have hi : off / P.cellsOf e < n := by rw [← hl]; exact (List.getElem?_eq_some_iff.1 hx).1
              have h2 := hel _ hi
              rw [hx] at h2
              have h3 := cellAt_ok k h m _ y.2 (by rw [h2, ← hd'])
              have h4 := take_drop_get h3
              have h5 : off / P.cellsOf e * P.cellsOf e + off % P.cellsOf e = off := by rw [Nat.mul_comm]; exact Nat.div_add_mod _ _
              rw [h5] at h4
              exact h4
        · cases h
      · cases h
    · rename_i fs ht
      split at h
      · rename_i ds
        obtain ⟨i, f, d', h1, h2, h3, h4, h5⟩ := fieldAt_some h
        obtain ⟨xs, m, rfl, e1, _, hl, hel⟩ := DataW.trod_struct ht hd
        simp only [Prod.mk.injEq, DataW.agg.injEq] at e1
        rw [e1.1, List.getElem?_map] at h2
        cases hx : xs[i]? with
        | none => rw [hx] at h2; cases h2
        | some y =>
          rw [hx] at h2
          simp only [Option.map_some, Option.some.injEq] at h2
          have h6 := hel i f (by simpa using h1)
          rw [hx] at h6
          have h7 := cellAt_ok k h5 m _ y.2 (by rw [h6, ← h2])
          have h8 := take_drop_get h7
          have h9 : f.offset + (off - f.offset) = off := by omega
          rw [h9] at h8
          exact h8
      · cases h
    · cases h

/-- Which cell of which listed variable. -/
def laidCell (P : Program) (laid : List (String × DataW Unit)) (name : String) (off : Nat) : Option Value :=
  match laid.find? (fun x => x.1 == name) with
  | some x => match P.globalNamed name with
    | some g => match P.globals[g]? with
      | some gd => cellAt P 8 gd.type x.2 off
      | none => none
    | none => none
  | none => none

theorem laidVars_mem {P : Program} {w : World} : ∀ {laid : List (String × DataW Unit)} {ps : List MemPlace}, DataW.LaidVars P w laid ps → ∀ x ∈ laid,
    ∃ g t cs fuel p, P.globalNamed x.1 = some g ∧ (P.globals[g]?).map (·.type) = some t ∧ w.var? P x.1 = some cs ∧ DataW.trod (fun _ => ()) P w 0 (fun _ => true) false fuel t cs.toList = some (x.2, p)
  | [], _, _, _, hx => by cases hx
  | (n, d) :: r, ps, h, x, hx => by
    obtain ⟨g, t, cs, fuel, p, q, h1, h2, h3, h4, h5, _⟩ := h
    rcases List.mem_cons.1 hx with rfl | hx
    · exact ⟨g, t, cs, fuel, p, h1, h2, h3, h4⟩
    · exact laidVars_mem h5 x hx

theorem laidCell_ok {P : Program} {laid : List (String × DataW Unit)} {w : World} (h : laidMet P laid w) {name : String} {g off : Nat} {v : Value} (hg : P.globalNamed name = some g) (hv : laidCell P laid name off = some v) :
    g < w.heap.size ∧ w.cell? ⟨g, off, none⟩ = some v := by
  obtain ⟨ps, h1, _, _⟩ := h
  unfold laidCell at hv
  split at hv
  · rename_i x hx
    rw [hg] at hv
    simp only [] at hv
    have hn : x.1 = name := by simpa using List.find?_some hx
    obtain ⟨g', t, cs, fuel, p, k1, k2, k3, k4⟩ := laidVars_mem h1 x (List.mem_of_find?_eq_some hx)
    rw [hn, hg, Option.some.injEq] at k1
    subst k1
    rw [hn] at k3
    split at hv
    · rename_i gd hgd
      rw [hgd] at k2
      simp only [Option.map_some, Option.some.injEq] at k2
      subst k2
      have := cellAt_ok 8 hv _ _ _ k4
      have hc : w.cell? ⟨g, off, none⟩ = some v := by rw [World.var?_cell hg k3 off]; simpa using this
      refine ⟨?_, hc⟩
      rcases Nat.lt_or_ge g w.heap.size with l | l
      · exact l
      · simp [World.cell?, Array.getElem?_eq_none l] at hc
    · cases hv
  · cases hv

end Go.Proofs.YtiamenedboifeabGreatDoor.Rx

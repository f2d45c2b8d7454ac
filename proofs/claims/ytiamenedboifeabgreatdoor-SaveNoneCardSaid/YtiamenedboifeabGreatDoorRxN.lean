/- A reflective evaluator of the model's code, part N: a region whose order is open, sound at every order. -/
import Derived.Test.YtiamenedboifeabGreatDoorRxM
namespace Go.Proofs.YtiamenedboifeabGreatDoor.Rx

/-- Where the real run stands, behind the operations that are listed. -/
structure LInv (p : Par) (base : Nat) (ρ0 : Place) (w0 : World) (Ms : Mem) (M0 : Mem) (F0 : T AV) (D0 : List AD) (recs : T Rec) (listed : Nat → Prop) (ρ : Place) (st : Option Nat) (a : Act) (w : World) : Prop where
  lst : ∀ l, isLoud recs l → (listed l ↔ ∃ s, st = some s ∧ l ≤ s)
  lst2 : ∀ s, st = some s → isLoud recs s
  step : Step p.E base ρ0 w0 Ms ρ w (memAt M0 recs st)
  next : p.id0 + p.ops.size ≤ (memAt M0 recs st).next
  early : ∀ j r x, recs.get j = some r → r.w = .made x → listed j → (∀ l, isLoud recs l → listed l → ahead p.bt j l = false) →
    ∃ l, ρ (p.id0 + j) = some l ∧ BR ρ l x w ∧ w0.heap.size ≤ l.blk ∧ ∀ b y m, (memAt M0 recs st).bl.get b = some y → ρ b = some m → m.blk ≠ l.blk
  apart : ∀ j j' r r' x x' l l', recs.get j = some r → r.w = .made x → listed j → recs.get j' = some r' → r'.w = .made x' → listed j' →
    (∀ l, isLoud recs l → listed l → ahead p.bt j l = false) → (∀ l, isLoud recs l → listed l → ahead p.bt j' l = false) →
    ρ (p.id0 + j) = some l → ρ (p.id0 + j') = some l' → l.blk = l'.blk → j = j'
  absent : ∀ j r x, recs.get j = some r → r.w = .made x → ¬ listed j → ρ (p.id0 + j) = none
  size : a.tmps.size = p.n
  tmps : ∀ t, (∃ j o r, listed j ∧ p.ops[j]? = some o ∧ o.dst = some t ∧ recs.get j = some r ∧ VR ρ r.v (a.tmps.getD t undef)) ∨
    ((∀ j o, listed j → p.ops[j]? = some o → o.dst ≠ some t) ∧ VR ρ (opd F0 (.tmp t)) (a.tmps.getD t undef))
  defers : DR ρ D0 a.defers
  nodead : ∀ j r, listed j → recs.get j = some r → r.w ≠ .dead
  base : base ≤ w.heap.size
  closed : Closed p.ops listed

/-- Every place keeps what it stands for where more is placed. -/
theorem Cons.wider {E : Env} {base : Nat} {ρ ρ' : Place} {M : Mem} {w w' : World} (hc : Cons E base ρ M w) (hle : ρ.le ρ') (hold : ∀ k, k < w.heap.size → w'.heap[k]? = w.heap[k]?) (hbase : base ≤ w.heap.size)
    (hnew : ∀ b l, ρ' b = some l → ρ b = some l ∨ (b < M.next ∧ base ≤ l.blk)) : Cons E base ρ' M w' where
  blk b x hx := let ⟨l, h1, h2⟩ := hc.blk b x hx; ⟨l, hle _ _ h1, (h2.mono hle).congr (hold _ h2.here)⟩
  inj b b' x x' l l' hx hx' hl hl' he := by
    obtain ⟨m, h1, _⟩ := hc.blk b x hx
    obtain ⟨m', h1', _⟩ := hc.blk b' x' hx'
    have e1 := hle _ _ h1
    have e2 := hle _ _ h1'
    rw [hl, Option.some.injEq] at e1
    rw [hl', Option.some.injEq] at e2
    subst e1 e2
    exact hc.inj b b' x x' l l' hx hx' h1 h1' he
  bound b l h := by
    rcases hnew b l h with h1 | h1
    · exact hc.bound b l h1
    · exact h1.1
  low b l h := by
    rcases hnew b l h with h1 | h1
    · exact hc.low b l h1
    · exact h1.2
  glob := hc.glob.mono fun k hk => hold k (by omega)
  sym := hc.sym.trans hle

section
variable {p : Par} {base : Nat} {ρ0 : Place} {w0 : World} {Ms M0 : Mem} {F0 : T AV} {D0 : List AD} {recs : T Rec} {listed : Nat → Prop} {ρ : Place} {st : Option Nat} {a : Act} {w : World}

/-- The frame that was reckoned for an operation that may run now holds. -/
theorem LInv.frame (h : LInv p base ρ0 w0 Ms M0 F0 D0 recs listed ρ st a w) (hS : Static p.ops p.bt) (hbt : ∀ j i, ahead p.bt j i = true → Reach p.ops j i)
    (_hrow : ∀ j o, listed j → p.ops[j]? = some o → ∃ r, recs.get j = some r) {i : Nat} {o : Oper} {r : Rec} (ho : p.ops[i]? = some o) (hi : ¬ listed i) (hready : ∀ q ∈ preds o, listed q)
    (hr : RecOK p F0 M0 recs i o r) : FR ρ r.F p.n a := by
  have hd : ∀ j, Reach p.ops j i → listed j := fun j hj => hj.mem h.closed fun o' ho' q hq => by
    rw [ho, Option.some.injEq] at ho'
    subst ho'
    exact hready q hq
  refine ⟨h.size, fun t => ?_⟩
  rcases hr.chain t with h1 | ⟨ht, hch⟩
  · simp [opd, h1, VR]
  · rcases h.tmps t with ⟨j, oj, rj, hj, hoj, hdj, hrj, hv⟩ | ⟨hno, hv⟩
    · -- a listed operation wrote it
      obtain ⟨rd1, rd2⟩ := hS.reads i o t j oj ho ht hoj hdj
      have hne : j ≠ i := fun e => by subst e; exact hi hj
      have hlt : j < i := by
        rcases Nat.lt_or_ge j i with k | k
        · exact k
        · have hij : i < j := by omega
          have := (hbt _ _ (rd2 hij)).mem h.closed (fun o' ho' q hq => h.closed j o' hj ho' q hq)
          exact absurd this hi
      rcases hch with ⟨k, ok, rk, hk, hok, hdk, hrk, hF⟩ | ⟨hnone, _⟩
      · have : k = j := hS.single k j ok oj t hok hoj hdk hdj
        subst this
        rw [hrj, Option.some.injEq] at hrk
        subst hrk
        simp only [opd, hF]
        exact hv
      · exact absurd hdj (hnone j oj hlt hoj)
    · rcases hch with ⟨k, ok, rk, hk, hok, hdk, hrk, hF⟩ | ⟨_, hF⟩
      · obtain ⟨rd1, _⟩ := hS.reads i o t k ok ho ht hok hdk
        exact absurd hdk (hno k ok (hd k (hbt _ _ (rd1 hk))) hok)
      · simp only [opd] at hv ⊢
        rw [hF]
        exact hv

/-- Which louds have run when an operation may run. -/
theorem LInv.before (h : LInv p base ρ0 w0 Ms M0 F0 D0 recs listed ρ st a w) (hbt : ∀ j i, ahead p.bt j i = true → Reach p.ops j i)
    {i : Nat} {o : Oper} (ho : p.ops[i]? = some o) (hi : ¬ listed i) (hready : ∀ q ∈ preds o, listed q) :
    (∀ l, ahead p.bt l i = true → listed l) ∧ (∀ l, listed l → ahead p.bt i l = false) := by
  refine ⟨fun l hl => (hbt _ _ hl).mem h.closed fun o' ho' q hq => ?_, fun l hl => ?_⟩
  · rw [ho, Option.some.injEq] at ho'
    subst ho'
    exact hready q hq
  · cases hb : ahead p.bt i l with
    | false => rfl
    | true => exact absurd ((hbt _ _ hb).mem h.closed fun o' ho' q hq => h.closed l o' hl ho' q hq) hi

/-- The tmps behind one operation more. -/
theorem LInv.tmpsPut (h : LInv p base ρ0 w0 Ms M0 F0 D0 recs listed ρ st a w) (_hS : Static p.ops p.bt) {i : Nat} {o : Oper} {r : Rec} (ho : p.ops[i]? = some o) (hi : ¬ listed i) (hr : recs.get i = some r)
    (hdst : ∀ d, o.dst = some d → d < p.n) {ρ' : Place} (hle : ρ.le ρ') {x : Value} (hx : VR ρ' r.v x) (t : Tmp) :
    (∃ j o' r', (listed j ∨ j = i) ∧ p.ops[j]? = some o' ∧ o'.dst = some t ∧ recs.get j = some r' ∧ VR ρ' r'.v ((a.put o.dst x).tmps.getD t undef)) ∨
    ((∀ j o', (listed j ∨ j = i) → p.ops[j]? = some o' → o'.dst ≠ some t) ∧ VR ρ' (opd F0 (.tmp t)) ((a.put o.dst x).tmps.getD t undef)) := by
  by_cases e : o.dst = some t
  · refine .inl ⟨i, o, r, .inr rfl, ho, e, hr, ?_⟩
    have : (a.put o.dst x).tmps.getD t undef = x := by
      rw [e]
      simp only [Act.put, Array.getD_eq_getD_getElem?, Array.getElem?_setIfInBounds, if_true]
      have := hdst t e
      rw [← h.size] at this
      simp [this]
    rw [this]
    exact hx
  · have hsame : (a.put o.dst x).tmps.getD t undef = a.tmps.getD t undef := by
      cases hd : o.dst with
      | none => rfl
      | some d =>
        have hne : d ≠ t := fun k => e (by rw [hd, k])
        simp only [Act.put, Array.getD_eq_getD_getElem?, Array.getElem?_setIfInBounds_ne hne]
    rw [hsame]
    rcases h.tmps t with ⟨j, oj, rj, hj, hoj, hdj, hrj, hv⟩ | ⟨hno, hv⟩
    · exact .inl ⟨j, oj, rj, .inl hj, hoj, hdj, hrj, hv.mono hle⟩
    · refine .inr ⟨fun j o' hj ho' => ?_, hv.mono hle⟩
      rcases hj with hj | rfl
      · exact hno j o' hj ho'
      · rw [ho, Option.some.injEq] at ho'
        subst ho'
        exact e

theorem Closed.add {ops : Array Oper} {listed : Nat → Prop} (h : Closed ops listed) {i : Nat} {o : Oper} (ho : ops[i]? = some o) (hready : ∀ q ∈ preds o, listed q) : Closed ops (fun j => listed j ∨ j = i) := by
  intro j o' hj ho' q hq
  rcases hj with hj | rfl
  · exact .inl (h j o' hj ho' q hq)
  · rw [ho, Option.some.injEq] at ho'
    subst ho'
    exact .inl (hready q hq)

/-- An operation that leaves the world as it was. -/
theorem LInv.still (h : LInv p base ρ0 w0 Ms M0 F0 D0 recs listed ρ st a w) (hS : Static p.ops p.bt) {i : Nat} {o : Oper} {r : Rec} (ho : p.ops[i]? = some o) (hi : ¬ listed i) (hready : ∀ q ∈ preds o, listed q)
    (hr : recs.get i = some r) (hdst : ∀ d, o.dst = some d → d < p.n) (hnl : ∀ M, r.w ≠ .loud M) (hnm : ∀ x, r.w ≠ .made x) (hnd : r.w ≠ .dead) {x : Value} (hx : VR ρ r.v x) :
    LInv p base ρ0 w0 Ms M0 F0 D0 recs (fun j => listed j ∨ j = i) ρ st (a.put o.dst x) w := by
  have hloud : ∀ l, isLoud recs l → l ≠ i := fun l ⟨q, M, h1, h2⟩ e => by
    subst e; rw [hr, Option.some.injEq] at h1; subst h1; exact hnl M h2
  have hmade : ∀ j r' x, recs.get j = some r' → r'.w = .made x → j ≠ i := fun j r' x h1 h2 e => by
    subst e; rw [hr, Option.some.injEq] at h1; subst h1; exact hnm x h2
  refine ⟨fun l hL => ?_, h.lst2, h.step, h.next, fun j r' x h1 h2 h3 h4 => ?_, fun j j' r1 r2 x1 x2 l l' a1 a2 a3 b1 b2 b3 c1 c2 d1 d2 d3 => ?_, fun j r' x h1 h2 h3 => ?_, ?_, h.tmpsPut hS ho hi hr hdst (.refl ρ) hx, by rw [put_defers]; exact h.defers,
    fun j r' hj hr' => ?_, h.base, h.closed.add ho hready⟩
  · rw [← h.lst l hL]
    constructor
    · rintro (h1 | h1)
      · exact h1
      · exact absurd h1 (hloud l hL)
    · exact .inl
  · rcases h3 with h3 | h3
    · exact h.early j r' x h1 h2 h3 fun l hL hl => h4 l hL (.inl hl)
    · exact absurd h3 (hmade j r' x h1 h2)
  · exact h.apart j j' r1 r2 x1 x2 l l' a1 a2 (a3.resolve_right (hmade j r1 x1 a1 a2)) b1 b2 (b3.resolve_right (hmade j' r2 x2 b1 b2)) (fun l hL hl => c1 l hL (.inl hl)) (fun l hL hl => c2 l hL (.inl hl)) d1 d2 d3
  · exact h.absent j r' x h1 h2 fun k => h3 (.inl k)
  · cases o.dst with
    | none => exact h.size
    | some d => simp [Act.put, h.size]
  · rcases hj with hj | rfl
    · exact h.nodead j r' hj hr'
    · rw [hr, Option.some.injEq] at hr'; subst hr'; exact hnd

/-- An operation that makes a block. -/
theorem LInv.make (h : LInv p base ρ0 w0 Ms M0 F0 D0 recs listed ρ st a w) (hS : Static p.ops p.bt) (hMs : Ms.next = p.id0) (_hb0 : base ≤ w0.heap.size) {i : Nat} {o : Oper} {r : Rec} (ho : p.ops[i]? = some o) (hi : ¬ listed i) (hready : ∀ q ∈ preds o, listed q)
    (hbef : ∀ l, listed l → ahead p.bt i l = false)
    (hr : recs.get i = some r) (hdst : ∀ d, o.dst = some d → d < p.n) {blk : AB} (hw : r.w = .made blk) {f : Nat → AV} (hv : r.v = f (p.id0 + i)) {res : Result Next} (hm : MadeR p.E.P ρ blk f w res) :
    ∃ x w' ρ', res = .ok (.value x) w' ∧ LInv p base ρ0 w0 Ms M0 F0 D0 recs (fun j => listed j ∨ j = i) ρ' st (a.put o.dst x) w' := by
  obtain ⟨x, w', ext, e1, e2, e3, e4, e5, e6, e7⟩ := hm.made
  have hid : ρ (p.id0 + i) = none := h.absent i r blk hr hw hi
  have hle := Place.le_upd (l := ⟨w.heap.size, 0, ext, undef⟩) hid
  obtain ⟨k1, k2⟩ := e7 (ρ.upd (p.id0 + i) ⟨w.heap.size, 0, ext, undef⟩) (p.id0 + i) hle (Place.upd_same _ _ _)
  have hi' : i < p.ops.size := by
    rcases Nat.lt_or_ge i p.ops.size with k | k
    · exact k
    · rw [Array.getElem?_eq_none k] at ho; cases ho
  have hnew : ∀ b l, ρ.upd (p.id0 + i) ⟨w.heap.size, 0, ext, undef⟩ b = some l → ρ b = some l ∨ (b = p.id0 + i ∧ l = ⟨w.heap.size, 0, ext, undef⟩) := fun b l hl => by
    by_cases e : b = p.id0 + i
    · subst e
      rw [Place.upd_same, Option.some.injEq] at hl
      exact .inr ⟨rfl, hl.symm⟩
    · rw [Place.upd_other _ _ _ _ e] at hl
      exact .inl hl
  have hw0 : w0.heap.size ≤ w.heap.size := h.step.size
  have hcons := h.step.cons
  have hnext := h.next
  have hplaced : ∀ j r' y, recs.get j = some r' → r'.w = .made y → listed j → (∀ l, isLoud recs l → listed l → ahead p.bt j l = false) → ∀ l, ρ (p.id0 + j) = some l → l.blk < w.heap.size := fun j r' y h1 h2 h3 h4 l hl => by
    obtain ⟨l', a1, a2, _⟩ := h.early j r' y h1 h2 h3 h4
    rw [hl, Option.some.injEq] at a1
    subst a1
    exact a2.here
  have hloud : ∀ l, isLoud recs l → l ≠ i := fun l ⟨q, M, h1, h2⟩ e => by
    subst e; rw [hr, Option.some.injEq] at h1; subst h1; rw [hw] at h2; cases h2
  refine ⟨x, w', _, e1, ⟨fun l hL => ?_, h.lst2, ?_, h.next, fun j r' y h1 h2 h3 h4 => ?_, fun j j' r1 r2 x1 x2 l l' a1 a2 a3 b1 b2 b3 c1 c2 d1 d2 d3 => ?_, fun j r' y h1 h2 h3 => ?_, ?_, h.tmpsPut hS ho hi hr hdst hle (by rw [hv]; exact k2),
    by rw [put_defers]; exact h.defers.mono hle, fun j r' hj hr' => ?_, by have := h.base; omega, h.closed.add ho hready⟩⟩
  · rw [← h.lst l hL]
    constructor
    · rintro (h1 | h1)
      · exact h1
      · exact absurd h1 (hloud l hL)
    · exact .inl
  · exact {
      ext := h.step.ext.trans hle
      cons := hcons.wider hle e3 h.base fun b l hl => by
        rcases hnew b l hl with h1 | ⟨h1, h2⟩
        · exact .inl h1
        · refine .inr ⟨by omega, ?_⟩
          rw [h2]
          exact h.base
      frame := fun k hk hn => by rw [e3 k (by omega)]; exact h.step.frame k hk hn
      size := by omega
      img := fun b y l hb hl => by
        rcases hnew b l hl with h1 | ⟨h1, h2⟩
        · exact h.step.img b y l hb h1
        · exact .inl (by rw [h2]; exact hw0)
      fresh := fun b l hl => by
        rcases hnew b l hl with h1 | ⟨h1, h2⟩
        · exact h.step.fresh b l h1
        · exact .inr (by omega)
      next := h.step.next
      os := e4.trans h.step.os
      tape := e5.trans h.step.tape
      output := e6.trans h.step.output }
  · rcases h3 with h3 | rfl
    · obtain ⟨l, b1, b2, b3, b4⟩ := h.early j r' y h1 h2 h3 fun l hL hl => h4 l hL (.inl hl)
      refine ⟨l, hle _ _ b1, (b2.mono hle).congr (e3 _ b2.here), b3, fun b y' m hb hm => ?_⟩
      rcases hnew b m hm with c1 | ⟨c1, c2⟩
      · exact b4 b y' m hb c1
      · rw [c2]
        have := b2.here
        show w.heap.size ≠ l.blk
        omega
    · rw [hr, Option.some.injEq] at h1
      subst h1
      rw [hw, What.made.injEq] at h2
      subst h2
      refine ⟨_, Place.upd_same _ _ _, k1, hw0, fun b y' m hb hm => ?_⟩
      obtain ⟨m', hm', hbr⟩ := hcons.blk b y' hb
      have := hle _ _ hm'
      rw [hm, Option.some.injEq] at this
      subst this
      have := hbr.here
      show m.blk ≠ w.heap.size
      omega
  · have far : ∀ j r' y, recs.get j = some r' → r'.w = .made y → listed j → (∀ l, isLoud recs l → listed l → ahead p.bt j l = false) → ∀ l, ρ.upd (p.id0 + i) ⟨w.heap.size, 0, ext, undef⟩ (p.id0 + j) = some l → ρ (p.id0 + j) = some l ∧ l.blk < w.heap.size := by
      intro j r' y h1 h2 h3 h4 l hl
      have hne : p.id0 + j ≠ p.id0 + i := fun e => by
        have : j = i := by omega
        subst this
        exact hi h3
      rw [Place.upd_other _ _ _ _ hne] at hl
      exact ⟨hl, hplaced j r' y h1 h2 h3 h4 l hl⟩
    rcases a3 with a3 | rfl <;> rcases b3 with b3 | rfl
    · obtain ⟨f1, _⟩ := far j r1 x1 a1 a2 a3 (fun l hL hl => c1 l hL (.inl hl)) l d1
      obtain ⟨f2, _⟩ := far j' r2 x2 b1 b2 b3 (fun l hL hl => c2 l hL (.inl hl)) l' d2
      exact h.apart j j' r1 r2 x1 x2 l l' a1 a2 a3 b1 b2 b3 (fun l hL hl => c1 l hL (.inl hl)) (fun l hL hl => c2 l hL (.inl hl)) f1 f2 d3
    · obtain ⟨_, f1⟩ := far j r1 x1 a1 a2 a3 (fun l hL hl => c1 l hL (.inl hl)) l d1
      rw [Place.upd_same, Option.some.injEq] at d2
      subst d2
      simp only [] at d3
      omega
    · obtain ⟨_, f2⟩ := far j' r2 x2 b1 b2 b3 (fun l hL hl => c2 l hL (.inl hl)) l' d2
      rw [Place.upd_same, Option.some.injEq] at d1
      subst d1
      simp only [] at d3
      omega
    · rfl
  · have hne : p.id0 + j ≠ p.id0 + i := fun e => h3 (.inr (by omega))
    rw [Place.upd_other _ _ _ _ hne]
    exact h.absent j r' y h1 h2 fun k => h3 (.inl k)
  · cases o.dst with
    | none => exact h.size
    | some d => simp [Act.put, h.size]
  · rcases hj with hj | rfl
    · exact h.nodead j r' hj hr'
    · rw [hr, Option.some.injEq] at hr'; subst hr'; rw [hw]; simp

/-- The memory that a loud operation sees is there. -/
theorem LInv.pre (h : LInv p base ρ0 w0 Ms M0 F0 D0 recs listed ρ st a w) {i : Nat} {Mp : Mem} (hpre : PreOK p M0 recs i st Mp)
    (hbef : ∀ l, ahead p.bt l i = true → listed l) (_haft : ∀ l, listed l → ahead p.bt i l = false) (hlt : ∀ l, isLoud recs l → listed l → l < i) :
    Cons p.E base ρ Mp w ∧ ∀ b x l, Mp.bl.get b = some x → ρ b = some l →
      ((memAt M0 recs st).bl.get b = some x ∨ ∃ j r, b = p.id0 + j ∧ recs.get j = some r ∧ r.w = .made x ∧ listed j ∧ ahead p.bt j i = true ∧ (∀ l, isLoud recs l → listed l → ahead p.bt j l = false) ∧ w0.heap.size ≤ l.blk) := by
  have hcons := h.step.cons
  have key : ∀ b x, Mp.bl.get b = some x → ((memAt M0 recs st).bl.get b = some x ∧ ∃ l, ρ b = some l ∧ BR ρ l x w) ∨
      ∃ j r l, b = p.id0 + j ∧ recs.get j = some r ∧ r.w = .made x ∧ listed j ∧ ahead p.bt j i = true ∧ (∀ l, isLoud recs l → listed l → ahead p.bt j l = false) ∧ ρ b = some l ∧ BR ρ l x w ∧ w0.heap.size ≤ l.blk ∧
        ∀ b y m, (memAt M0 recs st).bl.get b = some y → ρ b = some m → m.blk ≠ l.blk := by
    intro b x hb
    rcases (hpre.get b x).1 hb with ⟨j, hbj, hj, hja, ⟨r, hr1, hr2⟩, hno⟩ | ⟨_, h2⟩
    · have hl := hbef j hja
      have hno' : ∀ l, isLoud recs l → listed l → ahead p.bt j l = false := fun l hL hll => hno l (hlt l hL hll) hL
      obtain ⟨l, e1, e2, e3, e4⟩ := h.early j r x hr1 hr2 hl hno'
      exact .inr ⟨j, r, l, hbj, hr1, hr2, hl, hja, hno', by rw [hbj]; exact e1, e2, e3, e4⟩
    · obtain ⟨l, e1, e2⟩ := hcons.blk b x h2
      exact .inl ⟨h2, l, e1, e2⟩
  refine ⟨⟨fun b x hb => ?_, fun b b' x x' l l' hb hb' hl hl' he => ?_, fun b l hl => by rw [hpre.next]; exact hcons.bound b l hl, hcons.low, hcons.glob, hcons.sym⟩, fun b x l hb hl => ?_⟩
  · rcases key b x hb with ⟨_, h2⟩ | ⟨j, r, l, _, _, _, _, _, _, h1, h2, _⟩
    · exact h2
    · exact ⟨l, h1, h2⟩
  · rcases key b x hb with ⟨k1, _⟩ | ⟨j, r, m, e0, e1, e2, e3, _, e4, e5, e6, e7, e8⟩ <;> rcases key b' x' hb' with ⟨k1', _⟩ | ⟨j', r', m', e0', e1', e2', e3', _, e4', e5', e6', e7', e8'⟩
    · exact hcons.inj b b' x x' l l' k1 k1' hl hl' he
    · rw [hl', Option.some.injEq] at e5'
      subst e5'
      exact absurd he (e8' b x l k1 hl)
    · rw [hl, Option.some.injEq] at e5
      subst e5
      exact absurd he.symm (e8 b' x' l' k1' hl')
    · have := h.apart j j' r r' x x' l l' e1 e2 e3 e1' e2' e3' e4 e4' (by rw [← e0]; exact hl) (by rw [← e0']; exact hl') he
      rw [e0, e0', this]
  · rcases key b x hb with ⟨k1, _⟩ | ⟨j, r, m, e0, e1, e2, e3, ea, e4, e5, e6, e7, e8⟩
    · exact .inl k1
    · rw [hl, Option.some.injEq] at e5
      subst e5
      exact .inr ⟨j, r, e0, e1, e2, e3, ea, e4, e7⟩

/-- Out of a loud operation's step the whole step. -/
theorem LInv.loudStep (h : LInv p base ρ0 w0 Ms M0 F0 D0 recs listed ρ st a w) {i : Nat} {Mp M' : Mem} (hpre : PreOK p M0 recs i st Mp)
    (hbef : ∀ l, ahead p.bt l i = true → listed l) (haft : ∀ l, listed l → ahead p.bt i l = false) (hlt : ∀ l, isLoud recs l → listed l → l < i) {ρ' : Place} {w' : World} (k : Step p.E base ρ w Mp ρ' w' M') :
    Step p.E base ρ0 w0 Ms ρ' w' M' := by
  obtain ⟨_, hin⟩ := h.pre hpre hbef haft hlt
  have hw0 := h.step.size
  refine {
    ext := h.step.ext.trans k.ext
    cons := k.cons
    frame := fun q hq hn => ?_
    size := Nat.le_trans hw0 k.size
    img := fun b x l hb hl => ?_
    fresh := fun b l hl => ?_
    next := Nat.le_trans h.step.next (by rw [← hpre.next]; exact k.next)
    os := k.os.trans h.step.os
    tape := k.tape.trans h.step.tape
    output := k.output.trans h.step.output }
  · rw [k.frame q (by omega) ?_, h.step.frame q hq hn]
    intro b x l hb hl e
    rcases hin b x l hb hl with h1 | ⟨j, r, _, _, _, _, _, _, h2⟩
    · rcases h.step.img b x l h1 hl with h3 | ⟨b0, x0, l0, a1, a2, a3⟩
      · omega
      · exact hn b0 x0 l0 a1 a2 (a3.trans e)
    · omega
  · rcases k.img b x l hb hl with h1 | ⟨b0, x0, l0, a1, a2, a3⟩
    · exact .inl (by omega)
    · rcases hin b0 x0 l0 a1 a2 with h1 | ⟨j, r, _, _, _, _, _, _, h2⟩
      · rcases h.step.img b0 x0 l0 h1 a2 with h3 | ⟨b1, x1, l1, c1, c2, c3⟩
        · exact .inl (by omega)
        · exact .inr ⟨b1, x1, l1, c1, c2, c3.trans a3⟩
      · exact .inl (by omega)
  · rcases k.fresh b l hl with h1 | h1
    · exact h.step.fresh b l h1
    · refine .inr (Nat.le_trans h.step.next ?_)
      rw [← hpre.next]; exact h1

/-- A loud operation. -/
theorem LInv.loud (h : LInv p base ρ0 w0 Ms M0 F0 D0 recs listed ρ st a w) (hS : Static p.ops p.bt) {i : Nat} {o : Oper} {r : Rec} (ho : p.ops[i]? = some o) (hi : ¬ listed i) (hready : ∀ q ∈ preds o, listed q)
    (hr : recs.get i = some r) (hdst : ∀ d, o.dst = some d → d < p.n) {M' Mp : Mem} (hw : r.w = .loud M') (hpre : PreOK p M0 recs i st Mp)
    (hbef : ∀ l, ahead p.bt l i = true → listed l) (haft : ∀ l, listed l → ahead p.bt i l = false) (hlt : ∀ l, isLoud recs l → listed l → l < i) (hgt : ∀ l, isLoud recs l → ¬ listed l → i ≤ l) (hlen : ∀ k, p.ops.size ≤ k → recs.get k = none)
    {ρ' : Place} {w' : World} (k : Step p.E base ρ w Mp ρ' w' M') {x : Value} (hx : VR ρ' r.v x) :
    LInv p base ρ0 w0 Ms M0 F0 D0 recs (fun j => listed j ∨ j = i) ρ' (some i) (a.put o.dst x) w' := by
  obtain ⟨hcp, hin⟩ := h.pre hpre hbef haft hlt
  have hLi : isLoud recs i := ⟨r, M', hr, hw⟩
  have hmem : memAt M0 recs (some i) = M' := by
    simp only [memAt, hr]
    obtain ⟨rF, rv, rw', rst⟩ := r
    simp only at hw
    subst hw
    rfl
  have hmade : ∀ j r' x, recs.get j = some r' → r'.w = .made x → j ≠ i := fun j r' x h1 h2 e => by
    subst e; rw [hr, Option.some.injEq] at h1; subst h1; rw [hw] at h2; cases h2
  have hst := h.loudStep hpre hbef haft hlt k
  have hnx := h.next
  -- an early block that the operation does not see
  have keep : ∀ j r' y, recs.get j = some r' → r'.w = .made y → listed j → (∀ l, isLoud recs l → (listed l ∨ l = i) → ahead p.bt j l = false) →
      ∃ l, ρ (p.id0 + j) = some l ∧ BR ρ' l y w' ∧ w0.heap.size ≤ l.blk ∧ ∀ b y m, M'.bl.get b = some y → ρ' b = some m → m.blk ≠ l.blk := by
    intro j r' y h1 h2 h3 h4
    obtain ⟨l, e1, e2, e3, e4⟩ := h.early j r' y h1 h2 h3 fun l hL hl => h4 l hL (.inl hl)
    have hja : ahead p.bt j i = false := h4 i hLi (.inr rfl)
    have hne : ∀ b z m, Mp.bl.get b = some z → ρ b = some m → m.blk ≠ l.blk := by
      intro b z m hb hm
      rcases hin b z m hb hm with c1 | ⟨j', q, c0, c1, c2, c3, c4, c5, _⟩
      · exact e4 b z m c1 hm
      · intro he
        have := h.apart j' j q r' z y m l c1 c2 c3 h1 h2 h3 c5 (fun l hL hl => h4 l hL (.inl hl)) (by rw [← c0]; exact hm) e1 he
        subst this
        rw [c4] at hja; cases hja
    refine ⟨l, e1, (e2.mono k.ext).congr (k.frame _ e2.here fun b z m hb hm => hne b z m hb hm), e3, fun b z m hb hm => ?_⟩
    rcases k.img b z m hb hm with c1 | ⟨b0, z0, m0, c1, c2, c3⟩
    · have := e2.here; omega
    · rw [← c3]; exact hne b0 z0 m0 c1 c2
  refine ⟨fun l hL => ?_, fun s hs => ?_, by rw [hmem]; exact hst, ?_, fun j r' y h1 h2 h3 h4 => ?_, fun j j' r1 r2 x1 x2 l l' a1 a2 a3 b1 b2 b3 c1 c2 d1 d2 d3 => ?_, fun j r' y h1 h2 h3 => ?_, ?_,
    h.tmpsPut hS ho hi hr hdst k.ext hx, by rw [put_defers]; exact h.defers.mono k.ext, fun j r' hj hr' => ?_, Nat.le_trans h.base k.size, h.closed.add ho hready⟩
  · constructor
    · rintro (h1 | rfl)
      · exact ⟨i, rfl, Nat.le_of_lt (hlt l hL h1)⟩
      · exact ⟨l, rfl, Nat.le_refl _⟩
    · rintro ⟨s, hs, hls⟩
      simp only [Option.some.injEq] at hs
      subst hs
      by_cases e : l = i
      · exact .inr e
      · left
        refine Classical.byContradiction fun hnl => ?_
        have := hgt l hL hnl
        omega
  · simp only [Option.some.injEq] at hs
    subst hs
    exact hLi
  · rw [hmem]
    have := k.next
    rw [hpre.next] at this
    omega
  · have h3' := h3.resolve_right (hmade j r' y h1 h2)
    obtain ⟨l, e1, e2, e3, e4⟩ := keep j r' y h1 h2 h3' h4
    exact ⟨l, k.ext _ _ e1, e2, e3, by rw [hmem]; exact e4⟩
  · have a3' := a3.resolve_right (hmade j r1 x1 a1 a2)
    have b3' := b3.resolve_right (hmade j' r2 x2 b1 b2)
    obtain ⟨m, e1, _⟩ := h.early j r1 x1 a1 a2 a3' fun l hL hl => c1 l hL (.inl hl)
    obtain ⟨m', e1', _⟩ := h.early j' r2 x2 b1 b2 b3' fun l hL hl => c2 l hL (.inl hl)
    have f1 := k.ext _ _ e1
    have f2 := k.ext _ _ e1'
    rw [d1, Option.some.injEq] at f1
    rw [d2, Option.some.injEq] at f2
    subst f1 f2
    exact h.apart j j' r1 r2 x1 x2 l l' a1 a2 a3' b1 b2 b3' (fun l hL hl => c1 l hL (.inl hl)) (fun l hL hl => c2 l hL (.inl hl)) e1 e1' d3
  · have hnone := h.absent j r' y h1 h2 fun q => h3 (.inl q)
    have hj : j < p.ops.size ∨ p.ops.size ≤ j := Nat.lt_or_ge _ _
    cases hq : ρ' (p.id0 + j) with
    | none => rfl
    | some l =>
      exfalso
      rcases k.fresh _ _ hq with e1 | e1
      · rw [hnone] at e1; cases e1
      · rw [hpre.next] at e1
        rcases hj with hj | hj
        · omega
        · rw [hlen j hj] at h1; cases h1
  · cases o.dst with
    | none => exact h.size
    | some d => simp [Act.put, h.size]
  · rcases hj with hj | rfl
    · exact h.nodead j r' hj hr'
    · rw [hr, Option.some.injEq] at hr'; subst hr'; rw [hw]; simp

end
end Go.Proofs.YtiamenedboifeabGreatDoor.Rx

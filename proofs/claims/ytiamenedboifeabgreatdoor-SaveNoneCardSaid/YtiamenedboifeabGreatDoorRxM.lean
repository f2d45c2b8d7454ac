/- A reflective evaluator of the model's code, part M: what the reckoning of an open region gives. -/
import Derived.Test.YtiamenedboifeabGreatDoorRxL
namespace Go.Proofs.YtiamenedboifeabGreatDoor.Rx

inductive DFacts (p : Par) (F0 : T AV) (M0 : Mem) (recs : T Rec) : DFin → Prop
  | norm {F : T AV} {st : Option Nat} {pend : List (Nat × AB)}
      (row : ∀ i o, i < p.ops.size → p.ops[i]? = some o → ∃ r, recs.get i = some r ∧ RecOK p F0 M0 recs i o r ∧ r.w ≠ .dead)
      (rest : ∀ k, p.ops.size ≤ k → recs.get k = none)
      (chain : ∀ t, Chain p.ops recs F0 p.ops.size F t) (last : LastLoud recs p.ops.size st)
      (hp : ∀ j x, (j, x) ∈ pend ↔ (∃ r, recs.get j = some r ∧ r.w = .made x) ∧ ∀ l, isLoud recs l → ahead p.bt j l = false) :
      DFacts p F0 M0 recs (.norm F (addAll p.id0 (memAt M0 recs st) pend))
  | pan {ch : AChain} {i : Nat} {M' Mp : Mem} {o : Oper} {r : Rec} (hi : i < p.ops.size) (ho : p.ops[i]? = some o) (hr : recs.get i = some r) (hd : r.w = .dead)
      (hrow : RecOK p F0 M0 recs i o r)
      (row : ∀ j o, j < i → p.ops[j]? = some o → ∃ r, recs.get j = some r ∧ RecOK p F0 M0 recs j o r ∧ r.w ≠ .dead)
      (rest : ∀ k, i < k → recs.get k = none)
      (hw : wantA p.ops r.F o = some true) (hop : opC p.E p.callF Mp r.F o = some (.pan ch M')) (hpre : PreOK p M0 recs i r.st Mp)
      (behind : ∀ k, i < k → k < p.ops.size → ahead p.bt i k = true) : DFacts p F0 M0 recs (.pan ch i M')

theorem restOk_ok {bt : T Nat} {i : Nat} : ∀ {r : List Oper} {k : Nat}, restOk bt i k r = true → ∀ q, k ≤ q → q < k + r.length → ahead bt i q = true
  | [], k, _, q, h1, h2 => by simp at h2; omega
  | _ :: r, k, h, q, h1, h2 => by
    simp only [restOk] at h
    split at h
    · rename_i hk
      by_cases e : q = k
      · subst e; exact hk
      · exact restOk_ok h q (by omega) (by simp at h2; omega)
    · cases h

theorem goPre {p : Par} {F0 : T AV} {M0 : Mem} {g : GoSt} (h : GoOK p F0 M0 g) {r : Rec} (hst : r.st = stOf g.louds) (hch : chainOk p.bt g.i g.louds = true) :
    PreOK p M0 (g.recs.set g.i r) g.i r.st (addAll p.id0 g.M (inn p.bt g.i g.pend)) := by
  have hn := h.rest g.i (Nat.le_refl _)
  rw [hst]
  refine PreOK.set ?_ hn (Nat.le_refl _) fun s hs => by have := (h.last.2 s hs).1; omega
  have hlt : ∀ l, isLoud g.recs l → l < g.i := fun l hL => by
    obtain ⟨q, M, hq, _⟩ := hL
    rcases Nat.lt_or_ge l g.i with k | k
    · exact k
    · rw [h.rest l k] at hq; cases hq
  refine ⟨by rw [addAll_next, h.mem], fun l _ hL => ?_, fun b x => ?_⟩
  · obtain ⟨M', hM⟩ := (h.louds l).1 hL
    exact chainOk_ok hch l M' hM
  · have hu : ∀ j x y, (j, x) ∈ inn p.bt g.i g.pend → (j, y) ∈ inn p.bt g.i g.pend → x = y := fun j x y h1 h2 => h.names j x y (mem_inn.1 h1).1 (mem_inn.1 h2).1
    rw [addAll_get p.id0 g.M _ hu b x, ← h.mem]
    have key : ∀ j y, (j, y) ∈ inn p.bt g.i g.pend ↔ Sees p.bt g.recs g.i j y := by
      intro j y
      rw [mem_inn, h.pend j y]
      unfold Sees
      constructor
      · rintro ⟨⟨⟨q, h1, h2⟩, h3⟩, h4⟩
        refine ⟨?_, h4, ⟨q, h1, h2⟩, fun l _ hL => h3 l hL⟩
        rcases Nat.lt_or_ge j g.i with k | k
        · exact k
        · rw [h.rest j k] at h1; cases h1
      · rintro ⟨_, h4, h5, h3⟩
        exact ⟨⟨h5, fun l hL => h3 l (hlt l hL) hL⟩, h4⟩
    simp only [key]

theorem goD_ok {p : Par} {F0 : T AV} {M0 : Mem} (hS : ∀ j l, ahead p.bt j l = true → j < l) : ∀ (l : List Oper) (g g' : GoSt) (fin : DFin), (∀ k, l[k]? = p.ops[g.i + k]?) → g.i + l.length = p.ops.size → GoOK p F0 M0 g → goD p l g = some (g', fin) →
    DFacts p F0 M0 g'.recs fin ∧ (∀ q M', (q, M') ∈ g'.louds → ∃ r, g'.recs.get q = some r ∧ r.w = .loud M') ∧ ∀ q, isLoud g'.recs q → ∃ M', (q, M') ∈ g'.louds
  | [], g, g', fin, _, hlen, h, e => by
    simp only [goD, Option.some.injEq, Prod.mk.injEq] at e
    obtain ⟨rfl, rfl⟩ := e
    simp only [List.length_nil, Nat.add_zero] at hlen
    refine ⟨?_, h.loudM, fun q hq => (h.louds q).1 hq⟩
    rw [h.mem]
    refine .norm (fun i o hi ho => ?_) (fun k hk => h.rest k (by omega)) (fun t => by rw [← hlen]; exact h.chain t) (by rw [← hlen]; exact h.last) h.pend
    obtain ⟨r, h1, h2, h3⟩ := h.row i o (by omega) ho
    exact ⟨r, h1, h2, h3 _ rfl⟩
  | o :: r, g, g', fin, hl, hlen, h, e => by
    have ho : p.ops[g.i]? = some o := by have := hl 0; simpa using this.symm
    have hl' : ∀ k, r[k]? = p.ops[g.i + 1 + k]? := fun k => by have := hl (k + 1); simpa [Nat.add_assoc, Nat.add_comm 1 k] using this
    have hlen' : g.i + 1 + r.length = p.ops.size := by simp only [List.length_cons] at hlen; omega
    have hn := h.rest g.i (Nat.le_refl _)
    have hstlt : ∀ s, stOf g.louds = some s → s ≠ g.i := fun s hs => by have := (h.last.2 s hs).1; omega
    have hchain := Chain.restrict (l := looks p.ops o) h.chain
    have mk : ∀ (q : Rec), q.F = restrict g.F (looks p.ops o) → q.st = stOf g.louds → (∀ d, o.dst = some d → d < p.n) →
        (match q.w with
          | .off => wantA p.ops q.F o = some false ∧ q.v = .lit undef
          | .quiet => wantA p.ops q.F o = some true ∧ quiet p.E (memAt M0 (g.recs.set g.i q) q.st) q.F o = some q.v
          | .made x => wantA p.ops q.F o = some true ∧ ∃ f, madeA p.E q.F o = some (x, f) ∧ q.v = f (p.id0 + g.i)
          | .loud M' => wantA p.ops q.F o = some true ∧ ∃ Mp, opC p.E p.callF Mp q.F o = some (.val q.v M') ∧ PreOK p M0 (g.recs.set g.i q) g.i q.st Mp
          | .dead => True) → RecOK p F0 M0 (g.recs.set g.i q) g.i o q := by
      intro q hF hst hdst hw
      refine ⟨fun t => ?_, ?_, hdst, hw⟩
      · rw [hF]
        rcases hchain t with h1 | ⟨h1, h2⟩
        · exact .inl h1
        · exact .inr ⟨h1, h2.set (Nat.le_refl _)⟩
      · rw [hst]; exact h.last.set hn (Nat.le_refl _)
    simp only [goD] at e
    split at e
    · cases e
    · rename_i hw
      split at e
      · rename_i F' hF'
        exact goD_ok hS r _ g' fin hl' hlen' (h.next ho (r := ⟨restrict g.F (looks p.ops o), .lit undef, .off, stOf g.louds⟩) hF' (mk _ rfl rfl (put_some hF').1 ⟨hw, rfl⟩) (by simp) (.inl ⟨rfl, rfl, by simp⟩)
          (pend_same h (by simp) (by simp))) e
      · cases e
    · rename_i hw
      split at e
      · rename_i v hv
        split at e
        · rename_i F' hF'
          exact goD_ok hS r _ g' fin hl' hlen' (h.next ho (r := ⟨restrict g.F (looks p.ops o), v, .quiet, stOf g.louds⟩) hF' (mk _ rfl rfl (put_some hF').1 ⟨hw, by
            rw [memAt_set hstlt, ← h.mem]; exact hv⟩) (by simp) (.inl ⟨rfl, rfl, by simp⟩) (pend_same h (by simp) (by simp))) e
        · cases e
      · split at e
        · rename_i blk f hm
          split at e
          · rename_i F' hF'
            refine goD_ok hS r _ g' fin hl' hlen' (h.next ho (r := ⟨restrict g.F (looks p.ops o), f (p.id0 + g.i), .made blk, stOf g.louds⟩) hF' (mk _ rfl rfl (put_some hF').1 ⟨hw, f, hm, rfl⟩) (by simp) (.inl ⟨rfl, rfl, by simp⟩) ?_) e
            intro j x
            simp only [List.mem_cons, Prod.mk.injEq]
            have hLs : ∀ l, isLoud (g.recs.set g.i ⟨restrict g.F (looks p.ops o), f (p.id0 + g.i), .made blk, stOf g.louds⟩) l → isLoud g.recs l := fun l hL => by
              rcases (isLoud_set hn).1 hL with ⟨_, M, hM⟩ | h3
              · simp at hM
              · exact h3
            constructor
            · rintro (⟨rfl, rfl⟩ | hj)
              · refine ⟨⟨_, by rw [T.get_set, if_pos rfl], rfl⟩, fun l hL => ?_⟩
                obtain ⟨q, M, hq, _⟩ := hLs l hL
                have hlt : l < g.i := by
                  rcases Nat.lt_or_ge l g.i with k | k
                  · exact k
                  · rw [h.rest l k] at hq; cases hq
                cases ha : ahead p.bt g.i l with
                | false => rfl
                | true => have := hS _ _ ha; omega
              · obtain ⟨⟨q, a1, a2⟩, a3⟩ := (h.pend j x).1 hj
                refine ⟨⟨q, ?_, a2⟩, fun l hL => a3 l (hLs l hL)⟩
                rw [T.get_set, if_neg (fun e => by subst e; rw [hn] at a1; cases a1)]; exact a1
            · rintro ⟨⟨q, a1, a2⟩, a3⟩
              rw [T.get_set] at a1
              split at a1
              · rename_i ej
                simp only [Option.some.injEq] at a1
                subst a1
                simp only [What.made.injEq] at a2
                exact .inl ⟨ej, a2.symm⟩
              · exact .inr ((h.pend j x).2 ⟨⟨q, a1, a2⟩, fun l hL => a3 l ((isLoud_set hn).2 (.inr hL))⟩)
          · cases e
        · split at e
          · cases e
          · rename_i hch
            split at e
            · rename_i v M' hop
              split at e
              · rename_i F' hF'
                refine goD_ok hS r _ g' fin hl' hlen' (h.next ho (r := ⟨restrict g.F (looks p.ops o), v, .loud M', stOf g.louds⟩) hF' (mk _ rfl rfl (put_some hF').1 ⟨hw, _, hop, goPre h rfl hch⟩) (by simp) (.inr ⟨rfl, rfl⟩) ?_) e
                intro j x
                rw [mem_outt, h.pend j x]
                constructor
                · rintro ⟨⟨⟨q, a1, a2⟩, a3⟩, a4⟩
                  refine ⟨⟨q, ?_, a2⟩, fun l hL => ?_⟩
                  · rw [T.get_set, if_neg (fun e => by subst e; rw [hn] at a1; cases a1)]; exact a1
                  · rcases (isLoud_set hn).1 hL with ⟨rfl, _⟩ | h3
                    · exact a4
                    · exact a3 l h3
                · rintro ⟨⟨q, a1, a2⟩, a3⟩
                  rw [T.get_set] at a1
                  split at a1
                  · simp only [Option.some.injEq] at a1
                    subst a1
                    simp at a2
                  · exact ⟨⟨⟨q, a1, a2⟩, fun l hL => a3 l ((isLoud_set hn).2 (.inr hL))⟩, a3 g.i ((isLoud_set hn).2 (.inl ⟨rfl, _, rfl⟩))⟩
              · cases e
            · rename_i ch M' hop
              split at e
              · rename_i hrest
                split at e
                · rename_i F' hF'
                  simp only [Option.some.injEq, Prod.mk.injEq] at e
                  obtain ⟨rfl, rfl⟩ := e
                  have hget : (g.recs.set g.i ⟨restrict g.F (looks p.ops o), .unk, .dead, stOf g.louds⟩).get g.i = some ⟨restrict g.F (looks p.ops o), .unk, .dead, stOf g.louds⟩ := by rw [T.get_set, if_pos rfl]
                  refine ⟨.pan (by omega) ho hget rfl (mk _ rfl rfl (put_some hF').1 trivial) (fun j o' hj ho' => ?_) (fun k hk => ?_) hw hop (goPre h rfl hch) (fun k h1 h2 => restOk_ok hrest k (by omega) (by omega)), fun q N hm => ?_, fun q hq => ?_⟩
                  · obtain ⟨q, h1, h2, h3⟩ := h.row j o' hj ho'
                    exact ⟨q, by rw [T.get_set, if_neg (by omega)]; exact h1, h2.set hn (by omega), h3 _ rfl⟩
                  · rw [T.get_set, if_neg (by omega)]; exact h.rest k (by omega)
                  · obtain ⟨q', h1, h2⟩ := h.loudM q N hm
                    refine ⟨q', ?_, h2⟩
                    simp only [T.get_set]
                    rw [if_neg (fun e => by subst e; rw [hn] at h1; cases h1)]
                    exact h1
                  · rcases (isLoud_set hn).1 hq with ⟨_, M, hM⟩ | h3
                    · simp at hM
                    · exact (h.louds q).1 h3
                · cases e
              · cases e
            · cases e

/-! What is looked at once, of the region alone. -/

def wrGo : List Oper → Nat → T Nat → Option (T Nat)
  | [], _, w => some w
  | o :: r, i, w => match o.dst with
    | none => wrGo r (i + 1) w
    | some d => match w.get d with
      | some _ => none
      | none => wrGo r (i + 1) (w.set d i)

def looksOk (bt wr : T Nat) (i : Nat) : List Tmp → Bool
  | [] => true
  | t :: r => match (match wr.get t with
      | none => true
      | some j => cond (Nat.blt j i) (ahead bt j i) (cond (Nat.blt i j) (ahead bt i j) true)) with
    | true => looksOk bt wr i r
    | false => false

def predsOk (i : Nat) : List Nat → Bool
  | [] => true
  | p :: r => match Nat.blt p i with
    | true => predsOk i r
    | false => false

def statGo (ops : Array Oper) (bt wr : T Nat) : List Oper → Nat → Bool
  | [], _ => true
  | o :: r, i => match predsOk i (preds o) with
    | true => match looksOk bt wr i (looks ops o) with
      | true => statGo ops bt wr r (i + 1)
      | false => false
    | false => false

def staticOk (ops : Array Oper) (bt : T Nat) : Bool :=
  match wrGo ops.toList 0 .leaf with
  | some wr => statGo ops bt wr ops.toList 0
  | none => false

structure Static (ops : Array Oper) (bt : T Nat) : Prop where
  single : ∀ (i j : Nat) (oi oj : Oper) (d : Tmp), ops[i]? = some oi → ops[j]? = some oj → oi.dst = some d → oj.dst = some d → i = j
  reads : ∀ (i : Nat) (o : Oper) (t : Tmp) (j : Nat) (oj : Oper), ops[i]? = some o → t ∈ looks ops o → ops[j]? = some oj → oj.dst = some t → (j < i → ahead bt j i = true) ∧ (i < j → ahead bt i j = true)
  preds : ∀ (i : Nat) (o : Oper) (q : Nat), ops[i]? = some o → q ∈ preds o → q < i

theorem wrGo_ok {ops : Array Oper} : ∀ (l : List Oper) (i : Nat) (w wr : T Nat), (∀ k, l[k]? = ops[i + k]?) → wrGo l i w = some wr →
    (∀ d j, w.get d = some j ↔ j < i ∧ ∃ o, ops[j]? = some o ∧ o.dst = some d) → (∀ d j, wr.get d = some j ↔ ∃ o, ops[j]? = some o ∧ o.dst = some d)
  | [], i, w, wr, hl, h, hw => by
    simp only [wrGo, Option.some.injEq] at h
    subst h
    intro d j
    rw [hw d j]
    constructor
    · rintro ⟨_, h2⟩; exact h2
    · rintro ⟨o, h1, h2⟩
      refine ⟨?_, o, h1, h2⟩
      rcases Nat.lt_or_ge j i with k | k
      · exact k
      · have := hl (j - i)
        rw [show i + (j - i) = j from by omega, h1] at this
        simp at this
  | o :: r, i, w, wr, hl, h, hw => by
    have ho : ops[i]? = some o := by have := hl 0; simpa using this.symm
    have hl' : ∀ k, r[k]? = ops[i + 1 + k]? := fun k => by have := hl (k + 1); simpa [Nat.add_assoc, Nat.add_comm 1 k] using this
    simp only [wrGo] at h
    split at h
    · rename_i hd
      refine wrGo_ok r (i + 1) w wr hl' h fun d j => ?_
      rw [hw d j]
      constructor
      · rintro ⟨h1, h2⟩; exact ⟨by omega, h2⟩
      · rintro ⟨h1, o', h2, h3⟩
        refine ⟨?_, o', h2, h3⟩
        by_cases e : j = i
        · subst e; rw [ho, Option.some.injEq] at h2; subst h2; rw [hd] at h3; cases h3
        · omega
    · rename_i d0 hd
      split at h
      · cases h
      · rename_i hnone
        refine wrGo_ok r (i + 1) _ wr hl' h fun d j => ?_
        rw [T.get_set]
        by_cases e : d = d0
        · subst e
          rw [if_pos rfl]
          constructor
          · intro hj
            simp only [Option.some.injEq] at hj
            subst hj
            exact ⟨by omega, o, ho, hd⟩
          · rintro ⟨h1, o', h2, h3⟩
            by_cases ej : j = i
            · rw [ej]
            · exfalso
              have := (hw d j).2 ⟨by omega, o', h2, h3⟩
              rw [hnone] at this; cases this
        · rw [if_neg e, hw d j]
          constructor
          · rintro ⟨h1, h2⟩; exact ⟨by omega, h2⟩
          · rintro ⟨h1, o', h2, h3⟩
            refine ⟨?_, o', h2, h3⟩
            by_cases ej : j = i
            · subst ej; rw [ho, Option.some.injEq] at h2; subst h2; rw [hd, Option.some.injEq] at h3; exact absurd h3.symm e
            · omega

theorem looksOk_ok {bt wr : T Nat} {i : Nat} : ∀ {l : List Tmp}, looksOk bt wr i l = true → ∀ t ∈ l, ∀ j, wr.get t = some j → (j < i → ahead bt j i = true) ∧ (i < j → ahead bt i j = true)
  | [], _, t, ht, _, _ => by simp at ht
  | u :: r, h, t, ht, j, hj => by
    simp only [looksOk] at h
    split at h
    · rename_i h1
      rcases List.mem_cons.1 ht with rfl | ht
      · rw [hj] at h1
        simp only [] at h1
        refine ⟨fun hlt => ?_, fun hlt => ?_⟩
        · have : Nat.blt j i = true := by simpa [Nat.blt_eq] using hlt
          rw [this] at h1
          exact h1
        · have n1 : Nat.blt j i = false := by
            cases hb : Nat.blt j i with
            | false => rfl
            | true => have : j < i := by simpa [Nat.blt_eq] using hb
                      omega
          have n2 : Nat.blt i j = true := by simpa [Nat.blt_eq] using hlt
          rw [n1, n2] at h1
          exact h1
      · exact looksOk_ok h t ht j hj
    · cases h

theorem predsOk_ok {i : Nat} : ∀ {l : List Nat}, predsOk i l = true → ∀ q ∈ l, q < i
  | [], _, q, h => by simp at h
  | p :: r, h, q, hq => by
    simp only [predsOk] at h
    split at h
    · rename_i h1
      rcases List.mem_cons.1 hq with rfl | hq
      · simpa [Nat.blt_eq] using h1
      · exact predsOk_ok h q hq
    · cases h

theorem statGo_ok {ops : Array Oper} {bt wr : T Nat} : ∀ (l : List Oper) (i : Nat), (∀ k, l[k]? = ops[i + k]?) → statGo ops bt wr l i = true → ∀ k o, i ≤ k → ops[k]? = some o →
    predsOk k (preds o) = true ∧ looksOk bt wr k (looks ops o) = true
  | [], i, hl, _, k, o, hk, ho => by
    have := hl (k - i)
    rw [show i + (k - i) = k from by omega, ho] at this
    simp at this
  | q :: r, i, hl, h, k, o, hk, ho => by
    simp only [statGo] at h
    split at h
    · rename_i h1
      split at h
      · rename_i h2
        by_cases e : k = i
        · subst e
          have := hl 0
          simp only [Nat.add_zero, List.getElem?_cons_zero] at this
          rw [ho, Option.some.injEq] at this
          subst this
          exact ⟨h1, h2⟩
        · exact statGo_ok r (i + 1) (fun k => by have := hl (k + 1); simpa [Nat.add_assoc, Nat.add_comm 1 k] using this) h k o (by omega) ho
      · cases h
    · cases h

theorem staticOk_ok {ops : Array Oper} {bt : T Nat} (h : staticOk ops bt = true) : Static ops bt := by
  unfold staticOk at h
  split at h
  · rename_i wr hwr
    have hw := wrGo_ok (ops := ops) ops.toList 0 .leaf wr (fun k => by simp) hwr (fun d j => by simp)
    have hs := statGo_ok (ops := ops) ops.toList 0 (fun k => by simp) h
    refine ⟨fun i j oi oj d h1 h2 h3 h4 => ?_, fun i o t j oj h1 h2 h3 h4 => ?_, fun i o q h1 h2 => ?_⟩
    · have a := (hw d i).2 ⟨oi, h1, h3⟩
      have b := (hw d j).2 ⟨oj, h2, h4⟩
      rw [a, Option.some.injEq] at b
      exact b
    · exact looksOk_ok (hs i o (Nat.zero_le _) h1).2 t h2 j ((hw t j).2 ⟨oj, h3, h4⟩)
    · exact predsOk_ok (hs i o (Nat.zero_le _) h1).1 q h2
  · cases h

theorem Reach.lt {ops : Array Oper} {bt : T Nat} (hs : Static ops bt) {j i : Nat} (h : Reach ops j i) : j < i := by
  induction h with
  | one ho hp => exact hs.preds _ _ _ ho hp
  | step _ ho hp ih => have := hs.preds _ _ _ ho hp; omega

/-! Are two abstract values the same? -/

def same0 : Value → Value → Bool
  | .bool a, .bool b => a == b
  | .int j a, .int k b => decide (j = k) && decide (a = b)
  | .float j a, .float k b => decide (j = k) && Nat.beq a b
  | .string a, .string b => decide (a.data.toList = b.data.toList)
  | .pointer a, .pointer b => decide (a = b)
  | .slice a l c, .slice b m d => decide (a = b) && Nat.beq l m && Nat.beq c d
  | .map a, .map b => decide (a = b)
  | .nilFunc, .nilFunc => true
  | .nilIface, .nilIface => true
  | _, _ => false

def sameL : List Value → List Value → Bool
  | [], [] => true
  | a :: x, b :: y => match same0 a b with
    | true => sameL x y
    | false => false
  | _, _ => false

def sameV : Value → Value → Bool
  | .agg a, .agg b => sameL a.toList b.toList
  | .tuple a, .tuple b => sameL a.toList b.toList
  | .iface t a, .iface u b => Nat.beq t u && same0 a b
  | .func (.func f) a c, .func (.func g) b d => Nat.beq f g && sameL a.toList b.toList && sameL c.toList d.toList
  | a, b => same0 a b

mutual
def sameA : AV → AV → Bool
  | .unk, .unk => true
  | .lit a, .lit b => sameV a b
  | .ptr a o, .ptr b q => Nat.beq a b && Nat.beq o q
  | .slice a o l c e, .slice b q m d f => Nat.beq a b && Nat.beq o q && Nat.beq l m && decide (c = d) && Nat.beq e f
  | .eslice, .eslice => true
  | .mapp a, .mapp b => Nat.beq a b
  | .func (.func f) a c, .func (.func g) b d => Nat.beq f g && (sameAs a b && sameAs c d)
  | .iface t a, .iface u b => Nat.beq t u && sameA a b
  | .agg a, .agg b => sameAs a b
  | .tuple a, .tuple b => sameAs a b
  | .ex a, .ex b => a.same b
  | .one, .one => true
  | .nan, .nan => true
  | _, _ => false
def sameAs : List AV → List AV → Bool
  | [], [] => true
  | a :: x, b :: y => sameA a b && sameAs x y
  | _, _ => false
end

theorem same0_ok {a b : Value} (h : same0 a b = true) : a = b := by
  unfold same0 at h
  split at h
  · simp only [beq_iff_eq] at h; rw [h]
  · simp only [Bool.and_eq_true, decide_eq_true_eq] at h; rw [h.1, h.2]
  · simp only [Bool.and_eq_true, decide_eq_true_eq] at h; rw [h.1, Nat.eq_of_beq_eq_true h.2]
  · simp only [decide_eq_true_eq] at h
    congr 1
    apply ByteArray.ext
    exact Array.ext' h
  · simp only [decide_eq_true_eq] at h; rw [h]
  · simp only [Bool.and_eq_true, decide_eq_true_eq] at h; rw [h.1.1, Nat.eq_of_beq_eq_true h.1.2, Nat.eq_of_beq_eq_true h.2]
  · simp only [decide_eq_true_eq] at h; rw [h]
  · rfl
  · rfl
  · cases h

theorem sameL_ok : ∀ {a b : List Value}, sameL a b = true → a = b
  | [], [], _ => rfl
  | a :: x, b :: y, h => by
    simp only [sameL] at h
    split at h
    · rename_i h1
      rw [same0_ok h1, sameL_ok h]
    · cases h
  | [], _ :: _, h => by simp [sameL] at h
  | _ :: _, [], h => by simp [sameL] at h

theorem sameV_ok {a b : Value} (h : sameV a b = true) : a = b := by
  unfold sameV at h
  split at h
  · congr 1; exact Array.ext' (sameL_ok h)
  · congr 1; exact Array.ext' (sameL_ok h)
  · simp only [Bool.and_eq_true] at h
    rw [Nat.eq_of_beq_eq_true h.1, same0_ok h.2]
  · simp only [Bool.and_eq_true] at h
    rw [Nat.eq_of_beq_eq_true h.1.1, Array.ext' (sameL_ok h.1.2), Array.ext' (sameL_ok h.2)]
  · exact same0_ok h

mutual
theorem sameA_ok : ∀ (a b : AV), sameA a b = true → a = b
  | .unk, b, h => by cases b <;> simp [sameA] at h ⊢
  | .lit x, b, h => by cases b <;> simp [sameA] at h ⊢; exact sameV_ok h
  | .ptr a o, b, h => by
    cases b <;> simp [sameA] at h ⊢
    exact h
  | .slice a o l c e, b, h => by
    cases b <;> simp [sameA] at h ⊢
    exact ⟨h.1.1.1.1, h.1.1.1.2, h.1.1.2, h.1.2, h.2⟩
  | .eslice, b, h => by cases b <;> simp [sameA] at h ⊢
  | .mapp a, b, h => by
    cases b <;> simp [sameA] at h ⊢
    exact h
  | .func fn a c, b, h => by
    cases b with
    | func gn b d =>
      cases fn <;> cases gn <;> simp [sameA] at h ⊢
      exact ⟨h.1, sameAs_ok a b h.2.1, sameAs_ok c d h.2.2⟩
    | _ => cases fn <;> simp [sameA] at h
  | .iface t a, b, h => by
    cases b <;> simp [sameA] at h ⊢
    exact ⟨h.1, sameA_ok a _ h.2⟩
  | .agg a, b, h => by
    cases b <;> simp [sameA] at h ⊢
    exact sameAs_ok a _ h
  | .tuple a, b, h => by
    cases b <;> simp [sameA] at h ⊢
    exact sameAs_ok a _ h
  | .ex a, b, h => by
    cases b <;> simp [sameA] at h ⊢
    exact Exp.same_ok h
  | .one, b, h => by cases b <;> simp [sameA] at h ⊢
  | .nan, b, h => by cases b <;> simp [sameA] at h ⊢
theorem sameAs_ok : ∀ (a b : List AV), sameAs a b = true → a = b
  | [], [], _ => rfl
  | a :: x, b :: y, h => by
    simp [sameAs] at h
    rw [sameA_ok a b h.1, sameAs_ok x y h.2]
  | [], _ :: _, h => by simp [sameAs] at h
  | _ :: _, [], h => by simp [sameAs] at h
end

/-! What is read is the same at every time at which it may be read. -/

def allowed (bt : T Nat) (i : Nat) (st : Option Nat) : List (Nat × Mem) → Bool
  | [] => true
  | (l, _) :: r => match (match st with
      | none => !ahead bt l i
      | some s => cond (Nat.blt s l) (!ahead bt l i) (!ahead bt i l)) with
    | true => allowed bt i st r
    | false => false

def stagesOk (p : Par) (louds : List (Nat × Mem)) (i : Nat) (o : Oper) (r : Rec) : List (Option Nat × Mem) → Bool
  | [] => true
  | (st, M) :: rest => match (match decide (st = r.st) with
      | true => true
      | false => match allowed p.bt i st louds with
        | true => match quiet p.E M r.F o with
          | some v => sameA v r.v
          | none => false
        | false => true) with
    | true => stagesOk p louds i o r rest
    | false => false

def checkGo (p : Par) (louds : List (Nat × Mem)) (stages : List (Option Nat × Mem)) (recs : T Rec) : List Oper → Nat → Bool
  | [], _ => true
  | o :: rest, i => match (match recs.get i with
      | some r => match r.w with
        | .quiet => stagesOk p louds i o r stages
        | _ => true
      | none => true) with
    | true => checkGo p louds stages recs rest (i + 1)
    | false => false

def stagesOf (M0 : Mem) : List (Nat × Mem) → List (Option Nat × Mem)
  | [] => [(none, M0)]
  | (l, M) :: r => (some l, M) :: stagesOf M0 r

theorem mem_stagesOf {M0 : Mem} : ∀ {l : List (Nat × Mem)} {st : Option Nat} {M : Mem}, (st = none ∧ M = M0 ∨ ∃ q, st = some q ∧ (q, M) ∈ l) → (st, M) ∈ stagesOf M0 l
  | [], st, M, h => by
    rcases h with ⟨rfl, rfl⟩ | ⟨q, _, h⟩
    · simp [stagesOf]
    · simp at h
  | (k, N) :: r, st, M, h => by
    simp only [stagesOf, List.mem_cons, Prod.mk.injEq]
    rcases h with ⟨rfl, rfl⟩ | ⟨q, rfl, h⟩
    · exact .inr (mem_stagesOf (.inl ⟨rfl, rfl⟩))
    · rcases List.mem_cons.1 h with e | h
      · simp only [Prod.mk.injEq] at e
        exact .inl ⟨by rw [e.1], e.2⟩
      · exact .inr (mem_stagesOf (.inr ⟨q, rfl, h⟩))

theorem stagesOk_ok {p : Par} {louds : List (Nat × Mem)} {i : Nat} {o : Oper} {r : Rec} : ∀ {l : List (Option Nat × Mem)}, stagesOk p louds i o r l = true → ∀ st M, (st, M) ∈ l → st ≠ r.st →
    allowed p.bt i st louds = true → quiet p.E M r.F o = some r.v
  | [], _, st, M, h, _, _ => by simp at h
  | (st', M') :: rest, h, st, M, hm, hne, ha => by
    simp only [stagesOk] at h
    split at h
    · rename_i h1
      rcases List.mem_cons.1 hm with e | hm
      · simp only [Prod.mk.injEq] at e
        obtain ⟨rfl, rfl⟩ := e
        rw [decide_eq_false hne] at h1
        simp only [ha] at h1
        split at h1
        · rename_i v hv
          rw [hv, sameA_ok _ _ h1]
        · cases h1
      · exact stagesOk_ok h st M hm hne ha
    · cases h

theorem checkGo_ok {p : Par} {louds : List (Nat × Mem)} {stages : List (Option Nat × Mem)} {recs : T Rec} : ∀ (l : List Oper) (i : Nat), (∀ k, l[k]? = p.ops[i + k]?) → checkGo p louds stages recs l i = true →
    ∀ k o r, i ≤ k → p.ops[k]? = some o → recs.get k = some r → r.w = .quiet → stagesOk p louds k o r stages = true
  | [], i, hl, _, k, o, r, hk, ho, _, _ => by
    have := hl (k - i)
    rw [show i + (k - i) = k from by omega, ho] at this
    simp at this
  | q :: rest, i, hl, h, k, o, r, hk, ho, hr, hw => by
    simp only [checkGo] at h
    split at h
    · rename_i h1
      by_cases e : k = i
      · subst e
        have := hl 0
        simp only [Nat.add_zero, List.getElem?_cons_zero] at this
        rw [ho, Option.some.injEq] at this
        subst this
        rw [hr] at h1
        simp only [hw] at h1
        exact h1
      · exact checkGo_ok rest (i + 1) (fun k => by have := hl (k + 1); simpa [Nat.add_assoc, Nat.add_comm 1 k] using this) h k o r (by omega) ho hr hw
    · cases h

theorem allowed_of {bt : T Nat} {i : Nat} {st : Option Nat} : ∀ {l : List (Nat × Mem)}, (∀ q M, (q, M) ∈ l → (match st with | none => ahead bt q i = false | some s => (s < q → ahead bt q i = false) ∧ (q ≤ s → ahead bt i q = false))) →
    allowed bt i st l = true
  | [], _ => rfl
  | (q, M) :: r, h => by
    have h0 := h q M (by simp)
    have ih := allowed_of (l := r) (st := st) (bt := bt) (i := i) fun q M hm => h q M (by simp [hm])
    simp only [allowed]
    cases st with
    | none =>
      simp only [] at h0 ⊢
      rw [h0]
      exact ih
    | some s =>
      simp only [] at h0 ⊢
      cases hb : Nat.blt s q with
      | true =>
        have : s < q := by simpa [Nat.blt_eq] using hb
        rw [h0.1 this]
        exact ih
      | false =>
        have : q ≤ s := by
          rcases Nat.lt_or_ge s q with k | k
          · have : Nat.blt s q = true := by simpa [Nat.blt_eq] using k
            rw [this] at hb; cases hb
          · exact k
        rw [h0.2 this]
        exact ih

end Go.Proofs.YtiamenedboifeabGreatDoor.Rx

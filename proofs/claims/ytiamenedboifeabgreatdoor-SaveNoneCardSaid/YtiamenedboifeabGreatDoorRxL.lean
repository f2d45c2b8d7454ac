/- A reflective evaluator of the model's code, part L: a region whose order is open. What is reckoned, and what is known of it. -/
import Derived.Test.YtiamenedboifeabGreatDoorRxK
namespace Go.Proofs.YtiamenedboifeabGreatDoor.Rx

/-! Which operation must come ahead of which. -/

def preds (o : Oper) : List Nat := (o.after.toList.filter fun e => Region.binds .any e).map (·.on)

def bitsFold (bt : T Nat) : List Nat → Nat → Nat
  | [], acc => acc
  | p :: r, acc => bitsFold bt r (acc ||| (2 ^ p) ||| (match bt.get p with | some b => b | none => 0))

def bitsGo : List Oper → Nat → T Nat → T Nat
  | [], _, bt => bt
  | o :: r, i, bt => bitsGo r (i + 1) (bt.set i (bitsFold bt (preds o) 0))

def bitsOf (ops : Array Oper) : T Nat := bitsGo ops.toList 0 .leaf

/-- Must j come ahead of i? -/
def ahead (bt : T Nat) (j i : Nat) : Bool :=
  match bt.get i with
  | some b => b.testBit j
  | none => false

inductive Reach (ops : Array Oper) : Nat → Nat → Prop
  | one {p i : Nat} {o : Oper} : ops[i]? = some o → p ∈ preds o → Reach ops p i
  | step {j p i : Nat} {o : Oper} : Reach ops j p → ops[i]? = some o → p ∈ preds o → Reach ops j i

theorem bitsFold_ok {bt : T Nat} : ∀ (l : List Nat) (acc j : Nat), (bitsFold bt l acc).testBit j = true → acc.testBit j = true ∨ ∃ p ∈ l, j = p ∨ ∃ b, bt.get p = some b ∧ b.testBit j = true
  | [], acc, j, h => .inl h
  | p :: r, acc, j, h => by
    simp only [bitsFold] at h
    rcases bitsFold_ok r _ j h with h1 | ⟨q, hq, h1⟩
    · rw [Nat.testBit_or, Nat.testBit_or] at h1
      simp only [Bool.or_eq_true] at h1
      rcases h1 with (h1 | h1) | h1
      · exact .inl h1
      · rw [Nat.testBit_two_pow] at h1
        exact .inr ⟨p, by simp, .inl (of_decide_eq_true h1).symm⟩
      · refine .inr ⟨p, by simp, .inr ?_⟩
        split at h1
        · rename_i b hb; exact ⟨b, hb, h1⟩
        · simp at h1
    · exact .inr ⟨q, by simp [hq], h1⟩

theorem bitsGo_ok {ops : Array Oper} : ∀ (l : List Oper) (i : Nat) (bt : T Nat), (∀ k, l[k]? = ops.toList[i + k]?) → (∀ k b j, bt.get k = some b → b.testBit j = true → Reach ops j k) →
    ∀ k b j, (bitsGo l i bt).get k = some b → b.testBit j = true → Reach ops j k
  | [], _, _, _, h => h
  | o :: r, i, bt, hl, h => by
    simp only [bitsGo]
    refine bitsGo_ok r (i + 1) _ (fun k => by have := hl (k + 1); simpa [Nat.add_assoc, Nat.add_comm 1 k] using this) fun k b j hk hj => ?_
    rw [T.get_set] at hk
    split at hk
    · rename_i e
      subst e
      simp only [Option.some.injEq] at hk
      subst hk
      have ho : ops[k]? = some o := by have := hl 0; simpa using this.symm
      rcases bitsFold_ok _ _ _ hj with h1 | ⟨p, hp, h1⟩
      · simp at h1
      · rcases h1 with rfl | ⟨b, hb, hbj⟩
        · exact .one ho hp
        · exact .step (h p b j hb hbj) ho hp
    · exact h k b j hk hj

theorem ahead_ok {ops : Array Oper} {j i : Nat} (h : ahead (bitsOf ops) j i = true) : Reach ops j i := by
  unfold ahead at h
  split at h
  · rename_i b hb
    exact bitsGo_ok ops.toList 0 .leaf (fun k => by simp) (fun k b j hk => by simp at hk) i b j hb h
  · cases h

/-- A set of operations that holds what must come ahead. -/
def Closed (ops : Array Oper) (D : Nat → Prop) : Prop := ∀ i o, D i → ops[i]? = some o → ∀ p ∈ preds o, D p

theorem Reach.mem {ops : Array Oper} {D : Nat → Prop} (hD : Closed ops D) {j i : Nat} (h : Reach ops j i) : (∀ o, ops[i]? = some o → ∀ p ∈ preds o, D p) → D j := by
  induction h with
  | one ho hp => exact fun k => k _ ho _ hp
  | step _ ho hp ih => exact fun k => ih fun o' ho' q hq => hD _ o' (k _ ho _ hp) ho' q hq

/-! What an operation looks at. -/

def tmpsIn : List Operand → List Tmp
  | [] => []
  | .tmp t :: r => t :: tmpsIn r
  | _ :: r => tmpsIn r

def looks (ops : Array Oper) (o : Oper) : List Tmp :=
  match o.guard with
  | none => tmpsIn o.op.operands.toList
  | some (j, _) => match ops[j]? with
    | some p => match p.dst with
      | some t => t :: tmpsIn o.op.operands.toList
      | none => tmpsIn o.op.operands.toList
    | none => tmpsIn o.op.operands.toList

def restrict (F : T AV) : List Tmp → T AV
  | [] => .leaf
  | t :: r => match F.get t with
    | some v => (restrict F r).set t v
    | none => restrict F r

theorem restrict_get (F : T AV) : ∀ (l : List Tmp) (t : Tmp), (restrict F l).get t = none ∨ (t ∈ l ∧ (restrict F l).get t = F.get t)
  | [], t => by simp [restrict]
  | u :: r, t => by
    simp only [restrict]
    split
    · rename_i v hv
      rw [T.get_set]
      by_cases e : t = u
      · subst e
        rw [if_pos rfl, hv]
        exact .inr ⟨by simp, rfl⟩
      · rw [if_neg e]
        rcases restrict_get F r t with h | ⟨h1, h2⟩
        · exact .inl h
        · exact .inr ⟨by simp [h1], h2⟩
    · rcases restrict_get F r t with h | ⟨h1, h2⟩
      · exact .inl h
      · exact .inr ⟨by simp [h1], h2⟩

/-! The reckoning. -/

inductive What where
  | off
  | quiet
  | made (blk : AB)
  | loud (post : Mem)
  | dead

structure Rec where
  F : T AV
  v : AV
  w : What
  st : Option Nat

inductive DFin where
  | norm (F : T AV) (M : Mem)
  | pan (ch : AChain) (i : Nat) (M : Mem)

def addAll (id0 : Nat) (M : Mem) : List (Nat × AB) → Mem
  | [] => M
  | (i, x) :: r => ⟨(addAll id0 M r).next, (addAll id0 M r).bl.set (id0 + i) x⟩

def inn (bt : T Nat) (i : Nat) : List (Nat × AB) → List (Nat × AB)
  | [] => []
  | (j, x) :: r => cond (ahead bt j i) ((j, x) :: inn bt i r) (inn bt i r)

def outt (bt : T Nat) (i : Nat) : List (Nat × AB) → List (Nat × AB)
  | [] => []
  | (j, x) :: r => cond (ahead bt j i) (outt bt i r) ((j, x) :: outt bt i r)

def stOf : List (Nat × Mem) → Option Nat
  | [] => none
  | (l, _) :: _ => some l

/-- All louds must come ahead of i. -/
def chainOk (bt : T Nat) (i : Nat) : List (Nat × Mem) → Bool
  | [] => true
  | (l, _) :: r => match ahead bt l i with
    | true => chainOk bt i r
    | false => false

/-- i must come ahead of all these. -/
def restOk (bt : T Nat) (i : Nat) : Nat → List Oper → Bool
  | _, [] => true
  | k, _ :: r => match ahead bt i k with
    | true => restOk bt i (k + 1) r
    | false => false

structure Par where
  E : Env
  callF : CallF
  n : Nat
  ops : Array Oper
  bt : T Nat
  id0 : Nat

structure GoSt where
  i : Nat
  F : T AV
  M : Mem
  louds : List (Nat × Mem)
  pend : List (Nat × AB)
  recs : T Rec

def goD (p : Par) : List Oper → GoSt → Option (GoSt × DFin)
  | [], g => some (g, .norm g.F (addAll p.id0 g.M g.pend))
  | o :: r, g =>
    let Fo := restrict g.F (looks p.ops o)
    match wantA p.ops Fo o with
    | none => none
    | some false => match put g.F p.n o.dst (.lit undef) with
      | some F' => goD p r { g with i := g.i + 1, F := F', recs := g.recs.set g.i ⟨Fo, .lit undef, .off, stOf g.louds⟩ }
      | none => none
    | some true => match quiet p.E g.M Fo o with
      | some v => match put g.F p.n o.dst v with
        | some F' => goD p r { g with i := g.i + 1, F := F', recs := g.recs.set g.i ⟨Fo, v, .quiet, stOf g.louds⟩ }
        | none => none
      | none => match madeA p.E Fo o with
        | some (blk, f) => match put g.F p.n o.dst (f (p.id0 + g.i)) with
          | some F' => goD p r { g with i := g.i + 1, F := F', pend := (g.i, blk) :: g.pend, recs := g.recs.set g.i ⟨Fo, f (p.id0 + g.i), .made blk, stOf g.louds⟩ }
          | none => none
        | none => match chainOk p.bt g.i g.louds with
          | false => none
          | true => match opC p.E p.callF (addAll p.id0 g.M (inn p.bt g.i g.pend)) Fo o with
            | some (.val v M') => match put g.F p.n o.dst v with
              | some F' => goD p r { g with i := g.i + 1, F := F', M := M', louds := (g.i, M') :: g.louds, pend := outt p.bt g.i g.pend, recs := g.recs.set g.i ⟨Fo, v, .loud M', stOf g.louds⟩ }
              | none => none
            | some (.pan ch M') => match restOk p.bt g.i (g.i + 1) r with
              | true => match put g.F p.n o.dst .unk with
                | some _ => some ({ g with i := g.i + 1, recs := g.recs.set g.i ⟨Fo, .unk, .dead, stOf g.louds⟩ }, .pan ch g.i M')
                | none => none
              | false => none
            | _ => none

def isLoud (recs : T Rec) (l : Nat) : Prop := ∃ r M', recs.get l = some r ∧ r.w = .loud M'

def memAt (M0 : Mem) (recs : T Rec) : Option Nat → Mem
  | none => M0
  | some l => match recs.get l with
    | some ⟨_, _, .loud M', _⟩ => M'
    | _ => M0

/-- The last loud operation ahead of i. -/
def LastLoud (recs : T Rec) (i : Nat) (st : Option Nat) : Prop :=
  (∀ l, l < i → isLoud recs l → ∃ s, st = some s ∧ l ≤ s) ∧ (∀ s, st = some s → s < i ∧ isLoud recs s)

/-- What a frame holds ahead of i. -/
def Chain (ops : Array Oper) (recs : T Rec) (F0 : T AV) (i : Nat) (F : T AV) (t : Tmp) : Prop :=
  (∃ j o r, j < i ∧ ops[j]? = some o ∧ o.dst = some t ∧ recs.get j = some r ∧ F.get t = some r.v) ∨ ((∀ j o, j < i → ops[j]? = some o → o.dst ≠ some t) ∧ F.get t = F0.get t)

/-- Which made blocks a loud operation sees for the first time. -/
def Sees (bt : T Nat) (recs : T Rec) (i j : Nat) (x : AB) : Prop :=
  j < i ∧ ahead bt j i = true ∧ (∃ r, recs.get j = some r ∧ r.w = .made x) ∧ ∀ l, l < i → isLoud recs l → ahead bt j l = false

/-- The memory that a loud operation sees. -/
structure PreOK (p : Par) (M0 : Mem) (recs : T Rec) (i : Nat) (st : Option Nat) (Mp : Mem) : Prop where
  next : Mp.next = (memAt M0 recs st).next
  louds : ∀ l, l < i → isLoud recs l → ahead p.bt l i = true
  get : ∀ b x, Mp.bl.get b = some x ↔ (∃ j, b = p.id0 + j ∧ Sees p.bt recs i j x) ∨ ((∀ j y, b = p.id0 + j → ¬ Sees p.bt recs i j y) ∧ (memAt M0 recs st).bl.get b = some x)

structure RecOK (p : Par) (F0 : T AV) (M0 : Mem) (recs : T Rec) (i : Nat) (o : Oper) (r : Rec) : Prop where
  chain : ∀ t, r.F.get t = none ∨ (t ∈ looks p.ops o ∧ Chain p.ops recs F0 i r.F t)
  last : LastLoud recs i r.st
  dst : ∀ d, o.dst = some d → d < p.n
  want : match r.w with
    | .off => wantA p.ops r.F o = some false ∧ r.v = .lit undef
    | .quiet => wantA p.ops r.F o = some true ∧ quiet p.E (memAt M0 recs r.st) r.F o = some r.v
    | .made x => wantA p.ops r.F o = some true ∧ ∃ f, madeA p.E r.F o = some (x, f) ∧ r.v = f (p.id0 + i)
    | .loud M' => wantA p.ops r.F o = some true ∧ ∃ Mp, opC p.E p.callF Mp r.F o = some (.val r.v M') ∧ PreOK p M0 recs i r.st Mp
    | .dead => True

/-- What is known while the reckoning goes on. -/
structure GoOK (p : Par) (F0 : T AV) (M0 : Mem) (g : GoSt) : Prop where
  rest : ∀ k, g.i ≤ k → g.recs.get k = none
  row : ∀ i o, i < g.i → p.ops[i]? = some o → ∃ r, g.recs.get i = some r ∧ RecOK p F0 M0 g.recs i o r ∧ (∀ x, r.w = x → x ≠ .dead)
  chain : ∀ t, Chain p.ops g.recs F0 g.i g.F t
  last : LastLoud g.recs g.i (stOf g.louds)
  mem : g.M = memAt M0 g.recs (stOf g.louds)
  louds : ∀ l, isLoud g.recs l ↔ ∃ M', (l, M') ∈ g.louds
  loudM : ∀ l M', (l, M') ∈ g.louds → ∃ r, g.recs.get l = some r ∧ r.w = .loud M'
  pend : ∀ j x, (j, x) ∈ g.pend ↔ (∃ r, g.recs.get j = some r ∧ r.w = .made x) ∧ ∀ l, isLoud g.recs l → ahead p.bt j l = false

theorem mem_inn {bt : T Nat} {i j : Nat} {x : AB} : ∀ {l : List (Nat × AB)}, (j, x) ∈ inn bt i l ↔ (j, x) ∈ l ∧ ahead bt j i = true
  | [] => by simp [inn]
  | (k, y) :: r => by
    simp only [inn]
    cases h : ahead bt k i with
    | true =>
      simp only [cond_true, List.mem_cons, mem_inn (l := r), Prod.mk.injEq]
      constructor
      · rintro (⟨rfl, rfl⟩ | ⟨h1, h2⟩)
        · exact ⟨.inl ⟨rfl, rfl⟩, h⟩
        · exact ⟨.inr h1, h2⟩
      · rintro ⟨⟨rfl, rfl⟩ | h1, h2⟩
        · exact .inl ⟨rfl, rfl⟩
        · exact .inr ⟨h1, h2⟩
    | false =>
      simp only [cond_false, List.mem_cons, mem_inn (l := r), Prod.mk.injEq]
      constructor
      · rintro ⟨h1, h2⟩; exact ⟨.inr h1, h2⟩
      · rintro ⟨⟨rfl, rfl⟩ | h1, h2⟩
        · rw [h] at h2; cases h2
        · exact ⟨h1, h2⟩

theorem mem_outt {bt : T Nat} {i j : Nat} {x : AB} : ∀ {l : List (Nat × AB)}, (j, x) ∈ outt bt i l ↔ (j, x) ∈ l ∧ ahead bt j i = false
  | [] => by simp [outt]
  | (k, y) :: r => by
    simp only [outt]
    cases h : ahead bt k i with
    | false =>
      simp only [cond_false, List.mem_cons, mem_outt (l := r), Prod.mk.injEq]
      constructor
      · rintro (⟨rfl, rfl⟩ | ⟨h1, h2⟩)
        · exact ⟨.inl ⟨rfl, rfl⟩, h⟩
        · exact ⟨.inr h1, h2⟩
      · rintro ⟨⟨rfl, rfl⟩ | h1, h2⟩
        · exact .inl ⟨rfl, rfl⟩
        · exact .inr ⟨h1, h2⟩
    | true =>
      simp only [cond_true, List.mem_cons, mem_outt (l := r), Prod.mk.injEq]
      constructor
      · rintro ⟨h1, h2⟩; exact ⟨.inr h1, h2⟩
      · rintro ⟨⟨rfl, rfl⟩ | h1, h2⟩
        · rw [h] at h2; cases h2
        · exact ⟨h1, h2⟩

theorem addAll_next (id0 : Nat) (M : Mem) : ∀ (l : List (Nat × AB)), (addAll id0 M l).next = M.next
  | [] => rfl
  | (_, _) :: r => addAll_next id0 M r

/-- Where each name stands but for one block, what the added blocks are is plain. -/
theorem addAll_get (id0 : Nat) (M : Mem) : ∀ (l : List (Nat × AB)), (∀ j x y, (j, x) ∈ l → (j, y) ∈ l → x = y) → ∀ b x, (addAll id0 M l).bl.get b = some x ↔
    (∃ j, b = id0 + j ∧ (j, x) ∈ l) ∨ ((∀ j y, b = id0 + j → (j, y) ∉ l) ∧ M.bl.get b = some x)
  | [], _, b, x => by simp [addAll]
  | (i, z) :: r, hu, b, x => by
    have ih := addAll_get id0 M r (fun j x y h1 h2 => hu j x y (by simp [h1]) (by simp [h2])) b x
    simp only [addAll, T.get_set]
    by_cases e : b = id0 + i
    · rw [if_pos e]
      simp only [Option.some.injEq, List.mem_cons, Prod.mk.injEq]
      constructor
      · rintro rfl; exact .inl ⟨i, e, .inl ⟨rfl, rfl⟩⟩
      · rintro (⟨j, h1, h2⟩ | ⟨h1, h2⟩)
        · have : j = i := by omega
          subst this
          rcases h2 with ⟨_, rfl⟩ | h2
          · rfl
          · exact hu j z x (by simp) (by simp [h2])
        · exact absurd (.inl ⟨rfl, rfl⟩) (h1 i z e)
    · rw [if_neg e, ih]
      simp only [List.mem_cons, Prod.mk.injEq]
      constructor
      · rintro (⟨j, h1, h2⟩ | ⟨h1, h2⟩)
        · exact .inl ⟨j, h1, .inr h2⟩
        · refine .inr ⟨fun j y hb => ?_, h2⟩
          rintro (⟨rfl, rfl⟩ | h3)
          · exact e hb
          · exact h1 j y hb h3
      · rintro (⟨j, h1, h2⟩ | ⟨h1, h2⟩)
        · rcases h2 with ⟨rfl, rfl⟩ | h2
          · exact absurd h1 e
          · exact .inl ⟨j, h1, h2⟩
        · exact .inr ⟨fun j y hb h3 => h1 j y hb (.inr h3), h2⟩

/-! A record more changes nothing of what lies before it. -/

theorem isLoud_set {recs : T Rec} {i l : Nat} {r : Rec} (h : recs.get i = none) : isLoud (recs.set i r) l ↔ (l = i ∧ ∃ M', r.w = .loud M') ∨ isLoud recs l := by
  unfold isLoud
  simp only [T.get_set]
  constructor
  · rintro ⟨q, M', h1, h2⟩
    split at h1
    · rename_i e
      simp only [Option.some.injEq] at h1
      subst h1
      exact .inl ⟨e, M', h2⟩
    · exact .inr ⟨q, M', h1, h2⟩
  · rintro (⟨rfl, M', h2⟩ | ⟨q, M', h1, h2⟩)
    · exact ⟨r, M', by simp, h2⟩
    · have : ¬ l = i := fun e => by subst e; rw [h] at h1; cases h1
      exact ⟨q, M', by rw [if_neg this]; exact h1, h2⟩

theorem memAt_set {M0 : Mem} {recs : T Rec} {i : Nat} {r : Rec} {st : Option Nat} (hs : ∀ s, st = some s → s ≠ i) : memAt M0 (recs.set i r) st = memAt M0 recs st := by
  cases st with
  | none => rfl
  | some s =>
    simp only [memAt, T.get_set]
    rw [if_neg (hs s rfl)]

theorem LastLoud.set {recs : T Rec} {i k : Nat} {r : Rec} {st : Option Nat} (h : LastLoud recs k st) (hn : recs.get i = none) (hk : k ≤ i) : LastLoud (recs.set i r) k st := by
  refine ⟨fun l hl hL => ?_, fun s hs => ?_⟩
  · rcases (isLoud_set hn).1 hL with ⟨rfl, _⟩ | h1
    · omega
    · exact h.1 l hl h1
  · obtain ⟨h1, h2⟩ := h.2 s hs
    exact ⟨h1, (isLoud_set hn).2 (.inr h2)⟩

theorem Chain.set {ops : Array Oper} {recs : T Rec} {F0 F : T AV} {i k : Nat} {r : Rec} {t : Tmp} (h : Chain ops recs F0 k F t) (hk : k ≤ i) : Chain ops (recs.set i r) F0 k F t := by
  rcases h with ⟨j, o, q, h1, h2, h3, h4, h5⟩ | h
  · refine .inl ⟨j, o, q, h1, h2, h3, ?_, h5⟩
    rw [T.get_set, if_neg (by omega)]
    exact h4
  · exact .inr h

theorem Sees.set {bt : T Nat} {recs : T Rec} {i k j : Nat} {r : Rec} {x : AB} (hn : recs.get i = none) (hk : k ≤ i) : Sees bt (recs.set i r) k j x ↔ Sees bt recs k j x := by
  unfold Sees
  constructor
  · rintro ⟨h1, h2, ⟨q, h3, h4⟩, h5⟩
    refine ⟨h1, h2, ⟨q, ?_, h4⟩, fun l hl hL => h5 l hl ((isLoud_set hn).2 (.inr hL))⟩
    rw [T.get_set, if_neg (by omega)] at h3
    exact h3
  · rintro ⟨h1, h2, ⟨q, h3, h4⟩, h5⟩
    refine ⟨h1, h2, ⟨q, ?_, h4⟩, fun l hl hL => ?_⟩
    · rw [T.get_set, if_neg (by omega)]; exact h3
    · rcases (isLoud_set hn).1 hL with ⟨rfl, _⟩ | h6
      · omega
      · exact h5 l hl h6

theorem PreOK.set {p : Par} {M0 : Mem} {recs : T Rec} {k i : Nat} {st : Option Nat} {Mp : Mem} {r : Rec} (h : PreOK p M0 recs k st Mp) (hn : recs.get i = none) (hk : k ≤ i) (hst : ∀ s, st = some s → s ≠ i) :
    PreOK p M0 (recs.set i r) k st Mp := by
  refine ⟨by rw [memAt_set hst]; exact h.next, fun l hl hL => ?_, fun b x => ?_⟩
  · rcases (isLoud_set hn).1 hL with ⟨rfl, _⟩ | h6
    · omega
    · exact h.louds l hl h6
  · rw [h.get b x, memAt_set hst]
    simp only [Sees.set hn hk]

theorem RecOK.set {p : Par} {F0 : T AV} {M0 : Mem} {recs : T Rec} {k i : Nat} {o : Oper} {q r : Rec} (h : RecOK p F0 M0 recs k o q) (hn : recs.get i = none) (hk : k ≤ i) :
    RecOK p F0 M0 (recs.set i r) k o q := by
  have hst : ∀ s, q.st = some s → s ≠ i := fun s hs => by have := (h.last.2 s hs).1; omega
  refine ⟨fun t => ?_, h.last.set hn hk, h.dst, ?_⟩
  · rcases h.chain t with h1 | ⟨h1, h2⟩
    · exact .inl h1
    · exact .inr ⟨h1, h2.set hk⟩
  · have hw := h.want
    revert hw
    cases q.w with
    | off => exact id
    | quiet => rw [memAt_set hst]; exact id
    | made x => exact id
    | dead => exact id
    | loud M' =>
      simp only []
      rintro ⟨h1, Mp, h2, h3⟩
      exact ⟨h1, Mp, h2, h3.set hn hk hst⟩

theorem Chain.restrict {ops : Array Oper} {recs : T Rec} {F0 F : T AV} {i : Nat} {l : List Tmp} (h : ∀ t, Chain ops recs F0 i F t) (t : Tmp) :
    (restrict F l).get t = none ∨ (t ∈ l ∧ Chain ops recs F0 i (restrict F l) t) := by
  rcases restrict_get F l t with h1 | ⟨h1, h2⟩
  · exact .inl h1
  · refine .inr ⟨h1, ?_⟩
    unfold Chain
    rw [h2]
    exact h t

theorem put_some {F F' : T AV} {n : Nat} {dst : Option Tmp} {v : AV} (h : put F n dst v = some F') : (∀ d, dst = some d → d < n) ∧ ∀ t, F'.get t = if dst = some t then some v else F.get t := by
  cases dst with
  | none =>
    simp only [put, Option.some.injEq] at h
    subst h
    exact ⟨(fun d hd => by cases hd), fun t => by simp⟩
  | some d =>
    simp only [put] at h
    cases hd : Nat.blt d n with
    | false => rw [hd] at h; simp at h
    | true =>
      rw [hd] at h
      simp only [cond_true, Option.some.injEq] at h
      subst h
      refine ⟨fun e he => ?_, fun t => ?_⟩
      · simp only [Option.some.injEq] at he
        subst he
        simpa [Nat.blt_eq] using hd
      · rw [T.get_set]
        by_cases e : t = d
        · subst e; simp
        · have : ¬ d = t := fun k => e k.symm
          simp [e, this]

/-- The frame behind one operation more. -/
theorem Chain.next {ops : Array Oper} {recs : T Rec} {F0 F F' : T AV} {i n : Nat} {o : Oper} {r : Rec} (h : ∀ t, Chain ops recs F0 i F t) (ho : ops[i]? = some o) (hp : put F n o.dst r.v = some F') (t : Tmp) :
    Chain ops (recs.set i r) F0 (i + 1) F' t := by
  obtain ⟨_, hg⟩ := put_some hp
  by_cases e : o.dst = some t
  · refine .inl ⟨i, o, r, by omega, ho, e, by rw [T.get_set, if_pos rfl], by rw [hg, if_pos e]⟩
  · rcases h t with ⟨j, o', q, h1, h2, h3, h4, h5⟩ | ⟨h1, h2⟩
    · exact .inl ⟨j, o', q, by omega, h2, h3, by rw [T.get_set, if_neg (by omega)]; exact h4, by rw [hg, if_neg e]; exact h5⟩
    · refine .inr ⟨fun j o' hj ho' => ?_, by rw [hg, if_neg e]; exact h2⟩
      by_cases ej : j = i
      · subst ej
        rw [ho, Option.some.injEq] at ho'
        subst ho'
        exact e
      · exact h1 j o' (by omega) ho'

theorem chainOk_ok {bt : T Nat} {i : Nat} : ∀ {l : List (Nat × Mem)}, chainOk bt i l = true → ∀ k M', (k, M') ∈ l → ahead bt k i = true
  | [], _, k, M', h => by simp at h
  | (q, N) :: r, h, k, M', hm => by
    simp only [chainOk] at h
    split at h
    · rename_i h1
      rcases List.mem_cons.1 hm with e | hm
      · simp only [Prod.mk.injEq] at e
        rw [e.1]; exact h1
      · exact chainOk_ok h k M' hm
    · cases h

theorem GoOK.names {p : Par} {F0 : T AV} {M0 : Mem} {g : GoSt} (h : GoOK p F0 M0 g) : ∀ j x y, (j, x) ∈ g.pend → (j, y) ∈ g.pend → x = y := by
  intro j x y h1 h2
  obtain ⟨⟨r, a1, a2⟩, _⟩ := (h.pend j x).1 h1
  obtain ⟨⟨q, b1, b2⟩, _⟩ := (h.pend j y).1 h2
  rw [a1, Option.some.injEq] at b1
  subst b1
  rw [a2] at b2
  exact What.made.inj b2

/-- One record more. -/
theorem GoOK.next {p : Par} {F0 : T AV} {M0 : Mem} {g : GoSt} (h : GoOK p F0 M0 g) {o : Oper} (ho : p.ops[g.i]? = some o) {r : Rec} {F' : T AV} (hp : put g.F p.n o.dst r.v = some F')
    (hr : RecOK p F0 M0 (g.recs.set g.i r) g.i o r) (hd : r.w ≠ .dead) {M' : Mem} {louds : List (Nat × Mem)} {pend : List (Nat × AB)}
    (hl : (louds = g.louds ∧ M' = g.M ∧ ∀ M, r.w ≠ .loud M) ∨ (r.w = .loud M' ∧ louds = (g.i, M') :: g.louds))
    (hpd : ∀ j x, (j, x) ∈ pend ↔ (∃ q, (g.recs.set g.i r).get j = some q ∧ q.w = .made x) ∧ ∀ l, isLoud (g.recs.set g.i r) l → ahead p.bt j l = false) :
    GoOK p F0 M0 { i := g.i + 1, F := F', M := M', louds := louds, pend := pend, recs := g.recs.set g.i r } := by
  have hn := h.rest g.i (Nat.le_refl _)
  have hstlt : ∀ s, stOf g.louds = some s → s ≠ g.i := fun s hs => by have := (h.last.2 s hs).1; omega
  refine ⟨fun k hk => ?_, fun i o' hi ho' => ?_, Chain.next h.chain ho hp, ?_, ?_, fun l => ?_, fun l N hm => ?_, hpd⟩
  · simp only [] at hk
    rw [T.get_set, if_neg (by omega)]
    exact h.rest k (by omega)
  · simp only [] at hi
    by_cases e : i = g.i
    · subst e
      rw [ho, Option.some.injEq] at ho'
      subst ho'
      exact ⟨r, by rw [T.get_set, if_pos rfl], hr, fun x hx => hx ▸ hd⟩
    · obtain ⟨q, h1, h2, h3⟩ := h.row i o' (by omega) ho'
      exact ⟨q, by rw [T.get_set, if_neg e]; exact h1, h2.set hn (by omega), h3⟩
  · rcases hl with ⟨rfl, _, hnl⟩ | ⟨hw, rfl⟩
    · refine ⟨fun l hl hL => ?_, fun s hs => ?_⟩
      · rcases (isLoud_set hn).1 hL with ⟨rfl, M, hM⟩ | h1
        · exact absurd hM (hnl M)
        · have hlt : l < g.i := by
            obtain ⟨q, M, hq, _⟩ := h1
            rcases Nat.lt_or_ge l g.i with k | k
            · exact k
            · rw [h.rest l k] at hq; cases hq
          exact h.last.1 l hlt h1
      · obtain ⟨h1, h2⟩ := h.last.2 s hs
        exact ⟨by simp only []; omega, (isLoud_set hn).2 (.inr h2)⟩
    · refine ⟨fun l hl _ => ⟨g.i, rfl, by simp only [] at hl; omega⟩, fun s hs => ?_⟩
      simp only [stOf, Option.some.injEq] at hs
      subst hs
      exact ⟨by simp only []; omega, (isLoud_set hn).2 (.inl ⟨rfl, _, hw⟩)⟩
  · rcases hl with ⟨rfl, rfl, hnl⟩ | ⟨hw, rfl⟩
    · rw [memAt_set hstlt]; exact h.mem
    · obtain ⟨rF, rv, rw', rst⟩ := r
      simp only at hw
      subst hw
      simp only [stOf, memAt, T.get_set, if_true]
  · rw [isLoud_set hn, h.louds l]
    rcases hl with ⟨rfl, _, hnl⟩ | ⟨hw, rfl⟩
    · constructor
      · rintro (⟨rfl, M, hM⟩ | h1)
        · exact absurd hM (hnl M)
        · exact h1
      · exact .inr
    · simp only [List.mem_cons, Prod.mk.injEq]
      constructor
      · rintro (⟨rfl, M, hM⟩ | ⟨M, hM⟩)
        · exact ⟨M', .inl ⟨rfl, rfl⟩⟩
        · exact ⟨M, .inr hM⟩
      · rintro ⟨M, ⟨rfl, rfl⟩ | hM⟩
        · exact .inl ⟨rfl, _, hw⟩
        · exact .inr ⟨M, hM⟩
  · rcases hl with ⟨rfl, _, hnl⟩ | ⟨hw, rfl⟩
    · obtain ⟨q, h1, h2⟩ := h.loudM l N hm
      refine ⟨q, ?_, h2⟩
      rw [T.get_set, if_neg ?_]
      · exact h1
      · intro e; subst e; rw [hn] at h1; cases h1
    · simp only [List.mem_cons, Prod.mk.injEq] at hm
      rcases hm with ⟨rfl, rfl⟩ | hm
      · exact ⟨r, by rw [T.get_set, if_pos rfl], hw⟩
      · obtain ⟨q, h1, h2⟩ := h.loudM l N hm
        refine ⟨q, ?_, h2⟩
        rw [T.get_set, if_neg ?_]
        · exact h1
        · intro e; subst e; rw [hn] at h1; cases h1

theorem pend_same {p : Par} {F0 : T AV} {M0 : Mem} {g : GoSt} (h : GoOK p F0 M0 g) {r : Rec} (h1 : ∀ M, r.w ≠ .loud M) (h2 : ∀ x, r.w ≠ .made x) (j : Nat) (x : AB) :
    (j, x) ∈ g.pend ↔ (∃ q, (g.recs.set g.i r).get j = some q ∧ q.w = .made x) ∧ ∀ l, isLoud (g.recs.set g.i r) l → ahead p.bt j l = false := by
  have hn := h.rest g.i (Nat.le_refl _)
  rw [h.pend j x]
  constructor
  · rintro ⟨⟨q, a1, a2⟩, a3⟩
    refine ⟨⟨q, ?_, a2⟩, fun l hL => ?_⟩
    · rw [T.get_set, if_neg (fun e => by subst e; rw [hn] at a1; cases a1)]; exact a1
    · rcases (isLoud_set hn).1 hL with ⟨_, M, hM⟩ | h3
      · exact absurd hM (h1 M)
      · exact a3 l h3
  · rintro ⟨⟨q, a1, a2⟩, a3⟩
    rw [T.get_set] at a1
    split at a1
    · simp only [Option.some.injEq] at a1
      subst a1
      exact absurd a2 (h2 x)
    · exact ⟨⟨q, a1, a2⟩, fun l hL => a3 l ((isLoud_set hn).2 (.inr hL))⟩

end Go.Proofs.YtiamenedboifeabGreatDoor.Rx

/- A reflective evaluator of the model's code, part A: tries, abstract values and what they stand for. -/
import Derived.Calls
import Derived.Below
import Derived.Orders
import Derived.Defers
import Derived.Recover
import Derived.Scope
namespace Go.Proofs.YtiamenedboifeabGreatDoor.Rx

inductive T (α : Type) where
  | leaf
  | node (v : Option α) (l r : T α)

namespace T
variable {α : Type}

def get : T α → Nat → Option α
  | .leaf, _ => none
  | .node v l r, n => cond (Nat.beq n 0) v (cond (Nat.beq (n % 2) 0) (l.get (n / 2)) (r.get (n / 2)))

def path (x : α) : Nat → Nat → T α
  | 0, _ => .leaf
  | f + 1, n => cond (Nat.beq n 0) (.node (some x) .leaf .leaf)
      (cond (Nat.beq (n % 2) 0) (.node none (path x f (n / 2)) .leaf) (.node none .leaf (path x f (n / 2))))

def set : T α → Nat → α → T α
  | .leaf, n, x => path x (n + 1) n
  | .node v l r, n, x => cond (Nat.beq n 0) (.node (some x) l r)
      (cond (Nat.beq (n % 2) 0) (.node v (l.set (n / 2) x) r) (.node v l (r.set (n / 2) x)))

def del : T α → Nat → T α
  | .leaf, _ => .leaf
  | .node v l r, n => cond (Nat.beq n 0) (.node none l r)
      (cond (Nat.beq (n % 2) 0) (.node v (l.del (n / 2)) r) (.node v l (r.del (n / 2))))

def ofFrom : Nat → List α → T α → T α
  | _, [], t => t
  | i, x :: xs, t => ofFrom (i + 1) xs (t.set i x)

def ofList (l : List α) : T α := ofFrom 0 l .leaf

@[simp] theorem get_leaf (n : Nat) : (T.leaf : T α).get n = none := rfl

theorem beq0 (n : Nat) : Nat.beq n 0 = decide (n = 0) := by
  cases n <;> rfl

theorem get_path (x : α) : ∀ (f n m : Nat), n < f → (path x f n).get m = if m = n then some x else none := by
  intro f
  induction f with
  | zero => intro n m h; omega
  | succ f ih =>
    intro n m h
    unfold path
    simp only [beq0]
    by_cases hn : n = 0
    · subst hn
      simp only [decide_true, cond_true, get, beq0]
      by_cases hm : m = 0 <;> simp [hm]
    · by_cases he : n % 2 = 0
      · simp only [hn, he, decide_false, cond_false, decide_true, cond_true, get, beq0]
        by_cases hm : m = 0
        · have : ¬ m = n := by omega
          simp [hm]; omega
        · by_cases hme : m % 2 = 0
          · simp only [hm, hme, decide_false, cond_false, decide_true, cond_true]
            rw [ih (n / 2) (m / 2) (by omega)]
            by_cases e : m = n
            · subst e; simp
            · have : ¬ m / 2 = n / 2 := by omega
              simp [e, this]
          · have : ¬ m = n := by omega
            simp [hm, hme, this]
      · simp only [hn, he, decide_false, cond_false, get, beq0]
        by_cases hm : m = 0
        · have : ¬ m = n := by omega
          simp [hm]; omega
        · by_cases hme : m % 2 = 0
          · have : ¬ m = n := by omega
            simp [hm, hme, this]
          · simp only [hm, hme, decide_false, cond_false]
            rw [ih (n / 2) (m / 2) (by omega)]
            by_cases e : m = n
            · subst e; simp
            · have : ¬ m / 2 = n / 2 := by omega
              simp [e, this]

theorem get_set (x : α) : ∀ (t : T α) (n m : Nat), (t.set n x).get m = if m = n then some x else t.get m := by
  intro t
  induction t with
  | leaf => intro n m; simp only [set, get_leaf]; exact get_path x _ n m (by omega)
  | node v l r ihl ihr =>
    intro n m
    unfold set
    simp only [beq0]
    by_cases hn : n = 0
    · subst hn
      simp only [decide_true, cond_true, get, beq0]
      by_cases hm : m = 0 <;> simp [hm]
    · by_cases he : n % 2 = 0
      · simp only [hn, he, decide_false, cond_false, decide_true, cond_true, get, beq0]
        by_cases hm : m = 0
        · have : ¬ m = n := by omega
          simp [hm]; omega
        · by_cases hme : m % 2 = 0
          · simp only [hm, hme, decide_false, cond_false, decide_true, cond_true]
            rw [ihl]
            by_cases e : m = n
            · subst e; simp
            · have : ¬ m / 2 = n / 2 := by omega
              simp [e, this]
          · have : ¬ m = n := by omega
            simp [hm, hme, this]
      · simp only [hn, he, decide_false, cond_false, get, beq0]
        by_cases hm : m = 0
        · have : ¬ m = n := by omega
          simp [hm]; omega
        · by_cases hme : m % 2 = 0
          · have : ¬ m = n := by omega
            simp [hm, hme, this]
          · simp only [hm, hme, decide_false, cond_false]
            rw [ihr]
            by_cases e : m = n
            · subst e; simp
            · have : ¬ m / 2 = n / 2 := by omega
              simp [e, this]

theorem get_del : ∀ (t : T α) (n m : Nat), (t.del n).get m = if m = n then none else t.get m := by
  intro t
  induction t with
  | leaf => intro n m; simp [del]
  | node v l r ihl ihr =>
    intro n m
    unfold del
    simp only [beq0]
    by_cases hn : n = 0
    · subst hn
      simp only [decide_true, cond_true, get, beq0]
      by_cases hm : m = 0 <;> simp [hm]
    · by_cases he : n % 2 = 0
      · simp only [hn, he, decide_false, cond_false, decide_true, cond_true, get, beq0]
        by_cases hm : m = 0
        · have : ¬ m = n := by omega
          simp [hm]; omega
        · by_cases hme : m % 2 = 0
          · simp only [hm, hme, decide_false, cond_false, decide_true, cond_true]
            rw [ihl]
            by_cases e : m = n
            · subst e; simp
            · have : ¬ m / 2 = n / 2 := by omega
              simp [e, this]
          · have : ¬ m = n := by omega
            simp [hm, hme, this]
      · simp only [hn, he, decide_false, cond_false, get, beq0]
        by_cases hm : m = 0
        · have : ¬ m = n := by omega
          simp [hm]; omega
        · by_cases hme : m % 2 = 0
          · have : ¬ m = n := by omega
            simp [hm, hme, this]
          · simp only [hm, hme, decide_false, cond_false]
            rw [ihr]
            by_cases e : m = n
            · subst e; simp
            · have : ¬ m / 2 = n / 2 := by omega
              simp [e, this]

theorem get_ofFrom : ∀ (l : List α) (i : Nat) (t : T α) (m : Nat), (ofFrom i l t).get m = if i ≤ m ∧ m < i + l.length then l[m - i]? else t.get m := by
  intro l
  induction l with
  | nil => intro i t m; simp only [ofFrom, List.length_nil]; rw [if_neg (by omega)]
  | cons x xs ih =>
    intro i t m
    simp only [ofFrom, List.length_cons]
    rw [ih, get_set]
    by_cases h : i + 1 ≤ m ∧ m < i + 1 + xs.length
    · rw [if_pos h, if_pos (by omega)]
      obtain ⟨k, rfl⟩ : ∃ k, m = i + 1 + k := ⟨m - (i + 1), by omega⟩
      rw [show i + 1 + k - i = k + 1 from by omega, show i + 1 + k - (i + 1) = k from by omega]
      rfl
    · rw [if_neg h]
      by_cases e : m = i
      · subst e; rw [if_pos rfl, if_pos (by omega)]; simp
      · rw [if_neg e, if_neg (by omega)]

theorem get_ofList (l : List α) (m : Nat) : (ofList l).get m = l[m]? := by
  unfold ofList
  rw [get_ofFrom]
  by_cases h : 0 ≤ m ∧ m < 0 + l.length
  · rw [if_pos h]; simp
  · rw [if_neg h]; simp; omega
end T

/-! Expressions over named values. -/

structure Loc where
  blk : Nat
  off : Nat
  ext : Nat
  val : Value

abbrev Place := Nat → Option Loc

def Place.le (ρ ρ' : Place) : Prop := ∀ b l, ρ b = some l → ρ' b = some l

theorem Place.le.refl (ρ : Place) : ρ.le ρ := fun _ _ h => h
theorem Place.le.trans {a b c : Place} (h : a.le b) (k : b.le c) : a.le c := fun _ _ e => k _ _ (h _ _ e)

inductive Exp where
  | sym (k : Nat)
  | lit (v : Value)
  | bin (o : BinOp) (a b : Exp)
  | not (a : Exp)
  | len (a : Exp)
  deriving Inhabited

inductive Ty where
  | int (k : IntKind)
  | bool
  | str
  | flt (k : FloatKind)

/-- What runs without program and world. -/
def pure0 {α : Type} : Sem α → Option α
  | .pure a => some a
  | .mark _ k => pure0 k
  | _ => none

theorem pure0_run {P : Program} {α : Type} : ∀ (s : Sem α) (a : α), pure0 s = some a → ∀ w, s.run P w = .ok a w := by
  intro s
  induction s with
  | pure x => intro a h w; simp only [pure0, Option.some.injEq] at h; subst h; rfl
  | mark m k ih => intro a h w; simp only [pure0] at h; simp only [Sem.run]; exact ih a h w
  | _ => intro a h; simp [pure0] at h

def evBin (o : BinOp) (x y : Value) : Option Value :=
  match x, y with
  | .int k a, .int k' b => pure0 (Go.binOp o 0 (.int k a) (.int k' b))
  | .float k a, .float k' b => pure0 (Go.binOp o 0 (.float k a) (.float k' b))
  | .string a, .string b => pure0 (Go.binOp o 0 (.string a) (.string b))
  | .bool a, .bool b => match o with
    | .eql => some (.bool (a == b))
    | .neq => some (.bool (a != b))
    | _ => none
  | _, _ => none

def Exp.ev (σ : Place) : Exp → Option Value
  | .sym k => match σ k with
    | some l => some l.val
    | none => none
  | .lit v => some v
  | .bin o a b => match a.ev σ, b.ev σ with
    | some x, some y => evBin o x y
    | _, _ => none
  | .not a => match a.ev σ with
    | some (.bool b) => some (.bool !b)
    | _ => none
  | .len a => match a.ev σ with
    | some (.string s) => some (.int .i64 s.size)
    | _ => none

theorem Exp.ev_mono {σ σ' : Place} (h : σ.le σ') : ∀ {e : Exp} {v : Value}, e.ev σ = some v → e.ev σ' = some v
  | .sym k, v, e => by
    simp only [Exp.ev] at e ⊢
    split at e
    · rename_i l hl
      rw [h _ _ hl]
      exact e
    · cases e
  | .lit _, _, e => e
  | .bin o a b, v, e => by
    simp only [Exp.ev] at e ⊢
    split at e
    · rename_i x y hx hy
      rw [Exp.ev_mono h hx, Exp.ev_mono h hy]
      exact e
    · cases e
  | .not a, v, e => by
    simp only [Exp.ev] at e ⊢
    split at e
    · rename_i b hb
      rw [Exp.ev_mono h hb]
      exact e
    · cases e
  | .len a, v, e => by
    simp only [Exp.ev] at e ⊢
    split at e
    · rename_i b hb
      rw [Exp.ev_mono h hb]
      exact e
    · cases e

/-! Abstract values. -/

inductive AV where
  | unk
  | lit (v : Value)
  | ptr (b off : Nat)
  | slice (b off len : Nat) (cap : Option Nat) (esz : Nat)
  | eslice
  | mapp (b : Nat)
  | func (fn : Fn) (first captured : List AV)
  | iface (t : TypeId) (v : AV)
  | agg (cs : List AV)
  | tuple (vs : List AV)
  | yld (b : Nat)
  | one
  | ex (e : Exp)
  | nan
  deriving Inhabited


mutual
def VR (ρ : Place) : AV → Value → Prop
  | .unk, _ => True
  | .lit v, w => w = v
  | .ptr b off, w => ∃ l, ρ b = some l ∧ w = .pointer (some ⟨l.blk, l.off + off, none⟩)
  | .slice b off len cap esz, w => ∃ l c, ρ b = some l ∧ w = .slice (some ⟨l.blk, l.off + off, none⟩) len c ∧
      (match cap with
       | some k => c = k
       | none => len ≤ c ∧ l.off + off + c * esz ≤ l.ext)
  | .eslice, w => ∃ a c, w = .slice (some a) 0 c
  | .mapp b, w => ∃ l, ρ b = some l ∧ w = .map (some l.blk)
  | .func fn f c, w => ∃ f' c', w = .func fn f' c' ∧ VRs ρ f f'.toList ∧ VRs ρ c c'.toList
  | .iface t v, w => ∃ v', w = .iface t v' ∧ VR ρ v v'
  | .agg cs, w => ∃ a, w = .agg a ∧ VRs ρ cs a.toList
  | .tuple cs, w => ∃ a, w = .tuple a ∧ VRs ρ cs a.toList
  | .yld b, w => ∃ l, ρ b = some l ∧ w = .func (.yield l.blk) #[] #[]
  | .one, w => w.oneCell' = true
  | .ex e, w => e.ev ρ = some w ∧ w.oneCell' = true
  | .nan, w => ∃ b, w = .float .f64 b ∧ ∀ y, FloatKind.f64.format.order b y = none
def VRs (ρ : Place) : List AV → List Value → Prop
  | [], ws => ws = []
  | a :: as, ws => ∃ w ws', ws = w :: ws' ∧ VR ρ a w ∧ VRs ρ as ws'
end


mutual
theorem VR.mono {ρ ρ' : Place} (h : ρ.le ρ') : ∀ (a : AV) (w : Value), VR ρ a w → VR ρ' a w
  | .unk, _, _ => by simp [VR]
  | .lit v, w, e => by simpa [VR] using e
  | .ptr b off, w, e => by
    simp only [VR] at e ⊢
    obtain ⟨l, h1, h2⟩ := e
    exact ⟨l, h _ _ h1, h2⟩
  | .slice b off len cap esz, w, e => by
    simp only [VR] at e ⊢
    obtain ⟨l, c, h1, h2⟩ := e
    exact ⟨l, c, h _ _ h1, h2⟩
  | .eslice, w, e => by simpa [VR] using e
  | .mapp b, w, e => by
    simp only [VR] at e ⊢
    obtain ⟨l, h1, h2⟩ := e
    exact ⟨l, h _ _ h1, h2⟩
  | .func fn f c, w, e => by
    simp only [VR] at e ⊢
    obtain ⟨f', c', h1, h2, h3⟩ := e
    exact ⟨f', c', h1, VRs.mono h f _ h2, VRs.mono h c _ h3⟩
  | .iface t v, w, e => by
    simp only [VR] at e ⊢
    obtain ⟨v', h1, h2⟩ := e
    exact ⟨v', h1, VR.mono h v _ h2⟩
  | .agg cs, w, e => by
    simp only [VR] at e ⊢
    obtain ⟨a, h1, h2⟩ := e
    exact ⟨a, h1, VRs.mono h cs _ h2⟩
  | .tuple cs, w, e => by
    simp only [VR] at e ⊢
    obtain ⟨a, h1, h2⟩ := e
    exact ⟨a, h1, VRs.mono h cs _ h2⟩
  | .yld b, w, e => by
    simp only [VR] at e ⊢
    obtain ⟨l, h1, h2⟩ := e
    exact ⟨l, h _ _ h1, h2⟩
  | .one, w, e => by simpa [VR] using e
  | .ex x, w, e => by
    simp only [VR] at e ⊢
    exact ⟨Exp.ev_mono h e.1, e.2⟩
  | .nan, w, e => by simpa only [VR] using e
theorem VRs.mono {ρ ρ' : Place} (h : ρ.le ρ') : ∀ (a : List AV) (w : List Value), VRs ρ a w → VRs ρ' a w
  | [], w, e => by simpa [VRs] using e
  | a :: as, w, e => by
    simp only [VRs] at e ⊢
    obtain ⟨v, vs, h1, h2, h3⟩ := e
    exact ⟨v, vs, h1, VR.mono h a _ h2, VRs.mono h as _ h3⟩
end

theorem VRs.length {ρ : Place} : ∀ {a : List AV} {w : List Value}, VRs ρ a w → a.length = w.length
  | [], _, e => by simp only [VRs] at e; simp [e]
  | a :: as, w, e => by
    simp only [VRs] at e
    obtain ⟨v, vs, h1, _, h3⟩ := e
    subst h1
    simp [VRs.length h3]

theorem VRs.get {ρ : Place} : ∀ {a : List AV} {w : List Value}, VRs ρ a w → ∀ (i : Nat) (x : AV), a[i]? = some x → ∃ v, w[i]? = some v ∧ VR ρ x v
  | [], _, _, i, x, hx => by simp at hx
  | a :: as, w, e, i, x, hx => by
    simp only [VRs] at e
    obtain ⟨v, vs, h1, h2, h3⟩ := e
    subst h1
    cases i with
    | zero => simp at hx; subst hx; exact ⟨v, by simp, h2⟩
    | succ i => simp at hx ⊢; exact VRs.get h3 i x hx

theorem VRs.append {ρ : Place} : ∀ {a b : List AV} {v w : List Value}, VRs ρ a v → VRs ρ b w → VRs ρ (a ++ b) (v ++ w)
  | [], b, v, w, h, k => by simp only [VRs] at h; subst h; simpa using k
  | a :: as, b, v, w, h, k => by
    simp only [VRs] at h
    obtain ⟨x, xs, h1, h2, h3⟩ := h
    subst h1
    simp only [List.cons_append, VRs]
    exact ⟨x, xs ++ w, rfl, h2, VRs.append h3 k⟩

theorem VRs.of_get {ρ : Place} : ∀ {a : List AV} {w : List Value}, a.length = w.length → (∀ (i : Nat) (x : AV) (v : Value), a[i]? = some x → w[i]? = some v → VR ρ x v) → VRs ρ a w
  | [], w, hl, _ => by
    simp only [VRs]
    exact List.length_eq_zero_iff.1 (by simpa using hl.symm)
  | a :: as, [], hl, _ => by simp at hl
  | a :: as, w :: ws, hl, h => by
    simp only [VRs]
    refine ⟨w, ws, rfl, h 0 a w (by simp) (by simp), VRs.of_get (by simpa using hl) fun i x v hx hv => h (i + 1) x v (by simpa using hx) (by simpa using hv)⟩

theorem VRs.lits {ρ : Place} : ∀ (l : List Value), VRs ρ (l.map .lit) l
  | [] => by simp [VRs]
  | v :: vs => by
    simp only [List.map_cons, VRs]
    exact ⟨v, vs, rfl, by simp [VR], VRs.lits vs⟩

mutual
def AV.lit? : AV → Option Value
  | .lit v => some v
  | .iface t v => match v.lit? with
    | some x => some (.iface t x)
    | none => none
  | .agg cs => match lits? cs with
    | some l => some (.agg l.toArray)
    | none => none
  | .tuple cs => match lits? cs with
    | some l => some (.tuple l.toArray)
    | none => none
  | .func fn f c => match lits? f, lits? c with
    | some x, some y => some (.func fn x.toArray y.toArray)
    | _, _ => none
  | _ => none
def lits? : List AV → Option (List Value)
  | [] => some []
  | a :: as => match a.lit? with
    | some v => match lits? as with
      | some vs => some (v :: vs)
      | none => none
    | none => none
end

mutual
theorem VR.lit {ρ : Place} : ∀ (a : AV) (w v : Value), VR ρ a w → a.lit? = some v → w = v
  | .unk, _, _, _, h => by simp [AV.lit?] at h
  | .lit x, w, v, e, h => by simp only [VR] at e; simp only [AV.lit?, Option.some.injEq] at h; rw [e, h]
  | .ptr .., _, _, _, h => by simp [AV.lit?] at h
  | .slice .., _, _, _, h => by simp [AV.lit?] at h
  | .eslice, _, _, _, h => by simp [AV.lit?] at h
  | .mapp _, _, _, _, h => by simp [AV.lit?] at h
  | .yld _, _, _, _, h => by simp [AV.lit?] at h
  | .one, _, _, _, h => by simp [AV.lit?] at h
  | .ex _, _, _, _, h => by simp [AV.lit?] at h
  | .nan, _, _, _, h => by simp [AV.lit?] at h
  | .func fn f c, w, v, e, h => by
    simp only [VR] at e
    obtain ⟨f', c', h1, h2, h3⟩ := e
    simp only [AV.lit?] at h
    split at h
    · rename_i x y hx hy
      have a1 := VRs.lit f _ x h2 hx
      have a2 := VRs.lit c _ y h3 hy
      simp only [Option.some.injEq] at h
      rw [h1, ← h, ← a1, ← a2]
    · cases h
  | .iface t x, w, v, e, h => by
    simp only [VR] at e
    obtain ⟨v', h1, h2⟩ := e
    simp only [AV.lit?] at h
    split at h
    · rename_i y hy
      have := VR.lit x _ y h2 hy
      simp only [Option.some.injEq] at h
      rw [h1, ← h, this]
    · cases h
  | .agg cs, w, v, e, h => by
    simp only [VR] at e
    obtain ⟨a, h1, h2⟩ := e
    simp only [AV.lit?] at h
    split at h
    · rename_i y hy
      have := VRs.lit cs _ y h2 hy
      simp only [Option.some.injEq] at h
      rw [h1, ← h, ← this]
    · cases h
  | .tuple cs, w, v, e, h => by
    simp only [VR] at e
    obtain ⟨a, h1, h2⟩ := e
    simp only [AV.lit?] at h
    split at h
    · rename_i y hy
      have := VRs.lit cs _ y h2 hy
      simp only [Option.some.injEq] at h
      rw [h1, ← h, ← this]
    · cases h
theorem VRs.lit {ρ : Place} : ∀ (a : List AV) (w v : List Value), VRs ρ a w → lits? a = some v → w = v
  | [], w, v, e, h => by simp only [VRs] at e; simp only [lits?, Option.some.injEq] at h; rw [e, h]
  | a :: as, w, v, e, h => by
    simp only [VRs] at e
    obtain ⟨x, xs, h1, h2, h3⟩ := e
    simp only [lits?] at h
    split at h
    · rename_i y hy
      have b1 := VR.lit a _ y h2 hy
      split at h
      · rename_i ys hys
        have b2 := VRs.lit as _ ys h3 hys
        simp only [Option.some.injEq] at h
        rw [h1, ← h, b1, b2]
      · cases h
    · cases h
end

/-- The cells of a value; none: it is not known how many there are. -/
def AV.cells? : AV → Option (List AV)
  | .unk => none
  | .agg cs => some cs
  | .lit (.agg cs) => some (cs.toList.map .lit)
  | a => some [a]

theorem VR.cells {ρ : Place} {a : AV} {w : Value} {l : List AV} (h : VR ρ a w) (hl : a.cells? = some l) : VRs ρ l w.cells.toList := by
  have one : ∀ {x : AV}, VR ρ x w → (∀ cs, w ≠ .agg cs) → VRs ρ [x] w.cells.toList := by
    intro x hx hn
    have : w.cells = #[w] := by
      cases w <;> first | rfl | exact absurd rfl (hn _)
    rw [this]
    simp only [VRs]
    exact ⟨w, [], rfl, hx, rfl⟩
  cases a with
  | unk => simp [AV.cells?] at hl
  | agg cs =>
    simp only [AV.cells?, Option.some.injEq] at hl
    subst hl
    simp only [VR] at h
    obtain ⟨a, h1, h2⟩ := h
    subst h1
    exact h2
  | lit v =>
    simp only [VR] at h
    subst h
    cases w with
    | agg cs =>
      simp only [AV.cells?, Option.some.injEq] at hl
      subst hl
      exact VRs.lits _
    | _ =>
      simp only [AV.cells?, Option.some.injEq] at hl
      subst hl
      exact one (by simp [VR]) (by intro cs; simp)
  | ptr b off =>
    simp only [AV.cells?, Option.some.injEq] at hl; subst hl
    exact one h (by simp only [VR] at h; obtain ⟨_, _, e⟩ := h; intro cs; simp [e])
  | slice b off len cap esz =>
    simp only [AV.cells?, Option.some.injEq] at hl; subst hl
    exact one h (by simp only [VR] at h; obtain ⟨_, _, _, e, _⟩ := h; intro cs; simp [e])
  | eslice =>
    simp only [AV.cells?, Option.some.injEq] at hl; subst hl
    exact one h (by simp only [VR] at h; obtain ⟨_, _, e⟩ := h; intro cs; simp [e])
  | mapp b =>
    simp only [AV.cells?, Option.some.injEq] at hl; subst hl
    exact one h (by simp only [VR] at h; obtain ⟨_, _, e⟩ := h; intro cs; simp [e])
  | func fn f c =>
    simp only [AV.cells?, Option.some.injEq] at hl; subst hl
    exact one h (by simp only [VR] at h; obtain ⟨_, _, e, _⟩ := h; intro cs; simp [e])
  | iface t v =>
    simp only [AV.cells?, Option.some.injEq] at hl; subst hl
    exact one h (by simp only [VR] at h; obtain ⟨_, e, _⟩ := h; intro cs; simp [e])
  | tuple cs =>
    simp only [AV.cells?, Option.some.injEq] at hl; subst hl
    exact one h (by simp only [VR] at h; obtain ⟨_, e, _⟩ := h; intro cs; simp [e])
  | yld b =>
    simp only [AV.cells?, Option.some.injEq] at hl; subst hl
    exact one h (by simp only [VR] at h; obtain ⟨_, _, e⟩ := h; intro cs; simp [e])
  | one =>
    simp only [AV.cells?, Option.some.injEq] at hl; subst hl
    exact one h (by simp only [VR] at h; intro cs e; rw [e] at h; simp [Value.oneCell'] at h)
  | ex e =>
    simp only [AV.cells?, Option.some.injEq] at hl; subst hl
    exact one h (by simp only [VR] at h; obtain ⟨_, h⟩ := h; intro cs e; rw [e] at h; simp [Value.oneCell'] at h)
  | nan =>
    simp only [AV.cells?, Option.some.injEq] at hl; subst hl
    exact one h (by simp only [VR] at h; obtain ⟨_, e, _⟩ := h; intro cs; simp [e])

/-! What runs without the world. -/

def pureRun (P : Program) {α : Type} : Sem α → Option α
  | .pure a => some a
  | .program k => pureRun P (k P)
  | .mark _ k => pureRun P k
  | _ => none

theorem pureRun_run {P : Program} {α : Type} : ∀ (s : Sem α) (a : α), pureRun P s = some a → ∀ w, s.run P w = .ok a w := by
  intro s
  induction s with
  | pure x => intro a h w; simp only [pureRun, Option.some.injEq] at h; subst h; rfl
  | program k ih => intro a h w; simp only [pureRun] at h; simp only [Sem.run]; exact ih P a h w
  | mark m k ih => intro a h w; simp only [pureRun] at h; simp only [Sem.run]; exact ih a h w
  | _ => intro a h; simp [pureRun] at h

end Go.Proofs.YtiamenedboifeabGreatDoor.Rx

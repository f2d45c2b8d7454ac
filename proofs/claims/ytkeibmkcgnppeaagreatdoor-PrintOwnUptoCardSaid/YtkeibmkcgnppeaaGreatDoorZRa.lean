/- The evaluator of the model s code, first part: tries, values, memory, operations on literals. -/
import Derived.Calls
import Derived.Below
import Derived.Orders
import Derived.Defers
import Derived.Recover
import Derived.Scope
import Derived.Laws.Sem
import Derived.Laws.World
import Derived.Laws.Entries
import Derived.Laws.Cells
import Derived.Deep.MidRow
import Derived.Laws.Build
import Derived.Laws.BytesString
import Derived.Laws.Append
import Derived.Lib.Builder
import Derived.Lib.UnsafeStr
import Derived.Deep.AppendSrc
import Derived.Deep.Upon
import Derived.IntWalk
namespace Go.Proofs.YtkeibmkcgnppeaaGreatDoor.Rx
inductive T (α : Type) where
  | leaf
  | node (v : Option α) (l r : T α)
namespace T
variable {α : Type}
def get : T α → Nat → Option α
  | .leaf, _ => none
  | .node v l r, n => cond (Nat.beq n 0) v (cond (Nat.beq (n % 2) 0) (l.get (n / 2)) (r.get (n / 2)))
def path (x : α) : Nat → Nat → T α
  | 0, _ => .leaf
  | f + 1, n => cond (Nat.beq n 0) (.node (some x) .leaf .leaf)
      (cond (Nat.beq (n % 2) 0) (.node none (path x f (n / 2)) .leaf) (.node none .leaf (path x f (n / 2))))
def set : T α → Nat → α → T α
  | .leaf, n, x => path x (n + 1) n
  | .node v l r, n, x => cond (Nat.beq n 0) (.node (some x) l r)
      (cond (Nat.beq (n % 2) 0) (.node v (l.set (n / 2) x) r) (.node v l (r.set (n / 2) x)))
def del : T α → Nat → T α
  | .leaf, _ => .leaf
  | .node v l r, n => cond (Nat.beq n 0) (.node none l r)
      (cond (Nat.beq (n % 2) 0) (.node v (l.del (n / 2)) r) (.node v l (r.del (n / 2))))
def ofFrom : Nat → List α → T α → T α
  | _, [], t => t
  | i, x :: xs, t => ofFrom (i + 1) xs (t.set i x)
def ofList (l : List α) : T α := ofFrom 0 l .leaf
@[simp] theorem get_leaf (n : Nat) : (T.leaf : T α).get n = none := rfl
theorem beq0 (n : Nat) : Nat.beq n 0 = decide (n = 0) := by
  cases n <;> rfl
theorem get_path (x : α) : ∀ (f n m : Nat), n < f → (path x f n).get m = if m = n then some x else none := by
  intro f
  induction f with
  | zero => intro n m h; omega
  | succ f ih =>
    intro n m h
    unfold path
    simp only [beq0]
    by_cases hn : n = 0
    · subst hn
      simp only [decide_true, cond_true, get, beq0]
      by_cases hm : m = 0 <;> simp [hm]
    · by_cases he : n % 2 = 0
      · simp only [hn, he, decide_false, cond_false, decide_true, cond_true, get, beq0]
        by_cases hm : m = 0
        · have : ¬ m = n := by omega
          simp [hm]; omega
        · by_cases hme : m % 2 = 0
          · simp only [hm, hme, decide_false, cond_false, decide_true, cond_true]
            rw [ih (n / 2) (m / 2) (by omega)]
            by_cases e : m = n
            · subst e; simp
            · have : ¬ m / 2 = n / 2 := by omega
              simp [e, this]
          · have : ¬ m = n := by omega
            simp [hm, hme, this]
      · simp only [hn, he, decide_false, cond_false, get, beq0]
        by_cases hm : m = 0
        · have : ¬ m = n := by omega
          simp [hm]; omega
        · by_cases hme : m % 2 = 0
          · have : ¬ m = n := by omega
            simp [hm, hme, this]
          · simp only [hm, hme, decide_false, cond_false]
            rw [ih (n / 2) (m / 2) (by omega)]
            by_cases e : m = n
            · subst e; simp
            · have : ¬ m / 2 = n / 2 := by omega
              simp [e, this]
theorem get_set (x : α) : ∀ (t : T α) (n m : Nat), (t.set n x).get m = if m = n then some x else t.get m := by
  intro t
  induction t with
  | leaf => intro n m; simp only [set, get_leaf]; exact get_path x _ n m (by omega)
  | node v l r ihl ihr =>
    intro n m
    unfold set
    simp only [beq0]
    by_cases hn : n = 0
    · subst hn
      simp only [decide_true, cond_true, get, beq0]
      by_cases hm : m = 0 <;> simp [hm]
    · by_cases he : n % 2 = 0
      · simp only [hn, he, decide_false, cond_false, decide_true, cond_true, get, beq0]
        by_cases hm : m = 0
        · have : ¬ m = n := by omega
          simp [hm]; omega
        · by_cases hme : m % 2 = 0
          · simp only [hm, hme, decide_false, cond_false, decide_true, cond_true]
            rw [ihl]
            by_cases e : m = n
            · subst e; simp
            · have : ¬ m / 2 = n / 2 := by omega
              simp [e, this]
          · have : ¬ m = n := by omega
            simp [hm, hme, this]
      · simp only [hn, he, decide_false, cond_false, get, beq0]
        by_cases hm : m = 0
        · have : ¬ m = n := by omega
          simp [hm]; omega
        · by_cases hme : m % 2 = 0
          · have : ¬ m = n := by omega
            simp [hm, hme, this]
          · simp only [hm, hme, decide_false, cond_false]
            rw [ihr]
            by_cases e : m = n
            · subst e; simp
            · have : ¬ m / 2 = n / 2 := by omega
              simp [e, this]
theorem get_del : ∀ (t : T α) (n m : Nat), (t.del n).get m = if m = n then none else t.get m := by
  intro t
  induction t with
  | leaf => intro n m; simp [del]
  | node v l r ihl ihr =>
    intro n m
    unfold del
    simp only [beq0]
    by_cases hn : n = 0
    · subst hn
      simp only [decide_true, cond_true, get, beq0]
      by_cases hm : m = 0 <;> simp [hm]
    · by_cases he : n % 2 = 0
      · simp only [hn, he, decide_false, cond_false, decide_true, cond_true, get, beq0]
        by_cases hm : m = 0
        · have : ¬ m = n := by omega
          simp [hm]; omega
        · by_cases hme : m % 2 = 0
          · simp only [hm, hme, decide_false, cond_false, decide_true, cond_true]
            rw [ihl]
            by_cases e : m = n
            · subst e; simp
            · have : ¬ m / 2 = n / 2 := by omega
              simp [e, this]
          · have : ¬ m = n := by omega
            simp [hm, hme, this]
      · simp only [hn, he, decide_false, cond_false, get, beq0]
        by_cases hm : m = 0
        · have : ¬ m = n := by omega
          simp [hm]; omega
        · by_cases hme : m % 2 = 0
          · have : ¬ m = n := by omega
            simp [hm, hme, this]
          · simp only [hm, hme, decide_false, cond_false]
            rw [ihr]
            by_cases e : m = n
            · subst e; simp
            · have : ¬ m / 2 = n / 2 := by omega
              simp [e, this]
theorem get_ofFrom : ∀ (l : List α) (i : Nat) (t : T α) (m : Nat), (ofFrom i l t).get m = if i ≤ m ∧ m < i + l.length then l[m - i]? else t.get m := by
  intro l
  induction l with
  | nil => intro i t m; simp only [ofFrom, List.length_nil]; rw [if_neg (by omega)]
  | cons x xs ih =>
    intro i t m
    simp only [ofFrom, List.length_cons]
    rw [ih, get_set]
    by_cases h : i + 1 ≤ m ∧ m < i + 1 + xs.length
    · rw [if_pos h, if_pos (by omega)]
      obtain ⟨k, rfl⟩ : ∃ k, m = i + 1 + k := ⟨m - (i + 1), by omega⟩
      rw [show i + 1 + k - i = k + 1 from by omega, show i + 1 + k - (i + 1) = k from by omega]
      rfl
    · rw [if_neg h]
      by_cases e : m = i
      · subst e; rw [if_pos rfl, if_pos (by omega)]; simp
      · rw [if_neg e, if_neg (by omega)]
theorem get_ofList (l : List α) (m : Nat) : (ofList l).get m = l[m]? := by
  unfold ofList
  rw [get_ofFrom]
  by_cases h : 0 ≤ m ∧ m < 0 + l.length
  · rw [if_pos h]; simp
  · rw [if_neg h]; simp; omega
end T
structure Loc where
  blk : Nat
  off : Nat
  ext : Nat
  val : Value
abbrev Place := Nat → Option Loc
def Place.le (ρ ρ' : Place) : Prop := ∀ b l, ρ b = some l → ρ' b = some l
theorem Place.le.refl (ρ : Place) : ρ.le ρ := fun _ _ h => h
theorem Place.le.trans {a b c : Place} (h : a.le b) (k : b.le c) : a.le c := fun _ _ e => k _ _ (h _ _ e)
inductive Exp where
  | sym (k : Nat)
  | lit (v : Value)
  | bin (o : BinOp) (a b : Exp)
  | not (a : Exp)
  | len (a : Exp)
  deriving Inhabited
inductive Ty where
  | int (k : IntKind)
  | bool
  | str
  | flt (k : FloatKind)
def pure0 {α : Type} : Sem α → Option α
  | .pure a => some a
  | .mark _ k => pure0 k
  | _ => none
theorem pure0_run {P : Program} {α : Type} : ∀ (s : Sem α) (a : α), pure0 s = some a → ∀ w, s.run P w = .ok a w := by
  intro s
  induction s with
  | pure x => intro a h w; simp only [pure0, Option.some.injEq] at h; subst h; rfl
  | mark m k ih => intro a h w; simp only [pure0] at h; simp only [Sem.run]; exact ih a h w
  | _ => intro a h; simp [pure0] at h
def evBin (o : BinOp) (x y : Value) : Option Value :=
  match x, y with
  | .int k a, .int k' b => pure0 (Go.binOp o 0 (.int k a) (.int k' b))
  | .float k a, .float k' b => pure0 (Go.binOp o 0 (.float k a) (.float k' b))
  | .string a, .string b => pure0 (Go.binOp o 0 (.string a) (.string b))
  | .bool a, .bool b => match o with
    | .eql => some (.bool (a == b))
    | .neq => some (.bool (a != b))
    | _ => none
  | _, _ => none
def Exp.ev (σ : Place) : Exp → Option Value
  | .sym k => match σ k with
    | some l => some l.val
    | none => none
  | .lit v => some v
  | .bin o a b => match a.ev σ, b.ev σ with
    | some x, some y => evBin o x y
    | _, _ => none
  | .not a => match a.ev σ with
    | some (.bool b) => some (.bool !b)
    | _ => none
  | .len a => match a.ev σ with
    | some (.string s) => some (.int .i64 s.size)
    | _ => none
theorem Exp.ev_mono {σ σ' : Place} (h : σ.le σ') : ∀ {e : Exp} {v : Value}, e.ev σ = some v → e.ev σ' = some v
  | .sym k, v, e => by
    simp only [Exp.ev] at e ⊢
    split at e
    · rename_i l hl
      rw [h _ _ hl]
      exact e
    · cases e
  | .lit _, _, e => e
  | .bin o a b, v, e => by
    simp only [Exp.ev] at e ⊢
    split at e
    · rename_i x y hx hy
      rw [Exp.ev_mono h hx, Exp.ev_mono h hy]
      exact e
    · cases e
  | .not a, v, e => by
    simp only [Exp.ev] at e ⊢
    split at e
    · rename_i b hb
      rw [Exp.ev_mono h hb]
      exact e
    · cases e
  | .len a, v, e => by
    simp only [Exp.ev] at e ⊢
    split at e
    · rename_i b hb
      rw [Exp.ev_mono h hb]
      exact e
    · cases e
inductive AV where
  | unk
  | lit (v : Value)
  | ptr (b off : Nat)
  | slice (b off len : Nat) (cap : Option Nat) (esz : Nat)
  | eslice
  | mapp (b : Nat)
  | func (fn : Fn) (first captured : List AV)
  | iface (t : TypeId) (v : AV)
  | agg (cs : List AV)
  | tuple (vs : List AV)
  | yld (b : Nat)
  | one
  | ex (e : Exp)
  | nan
  deriving Inhabited
mutual
def VR (ρ : Place) : AV → Value → Prop
  | .unk, _ => True
  | .lit v, w => w = v
  | .ptr b off, w => ∃ l, ρ b = some l ∧ w = .pointer (some ⟨l.blk, l.off + off, none⟩)
  | .slice b off len cap esz, w => ∃ l c, ρ b = some l ∧ w = .slice (some ⟨l.blk, l.off + off, none⟩) len c ∧
      (match cap with
       | some k => c = k
       | none => len ≤ c ∧ l.off + off + c * esz ≤ l.ext)
  | .eslice, w => ∃ a c, w = .slice (some a) 0 c
  | .mapp b, w => ∃ l, ρ b = some l ∧ w = .map (some l.blk)
  | .func fn f c, w => ∃ f' c', w = .func fn f' c' ∧ VRs ρ f f'.toList ∧ VRs ρ c c'.toList
  | .iface t v, w => ∃ v', w = .iface t v' ∧ VR ρ v v'
  | .agg cs, w => ∃ a, w = .agg a ∧ VRs ρ cs a.toList
  | .tuple cs, w => ∃ a, w = .tuple a ∧ VRs ρ cs a.toList
  | .yld b, w => ∃ l, ρ b = some l ∧ w = .func (.yield l.blk) #[] #[]
  | .one, w => w.oneCell' = true
  | .ex e, w => e.ev ρ = some w ∧ w.oneCell' = true
  | .nan, w => ∃ b, w = .float .f64 b ∧ ∀ y, FloatKind.f64.format.order b y = none
def VRs (ρ : Place) : List AV → List Value → Prop
  | [], ws => ws = []
  | a :: as, ws => ∃ w ws', ws = w :: ws' ∧ VR ρ a w ∧ VRs ρ as ws'
end
mutual
theorem VR.mono {ρ ρ' : Place} (h : ρ.le ρ') : ∀ (a : AV) (w : Value), VR ρ a w → VR ρ' a w
  | .unk, _, _ => by simp [VR]
  | .lit v, w, e => by simpa [VR] using e
  | .ptr b off, w, e => by
    simp only [VR] at e ⊢
    obtain ⟨l, h1, h2⟩ := e
    exact ⟨l, h _ _ h1, h2⟩
  | .slice b off len cap esz, w, e => by
    simp only [VR] at e ⊢
    obtain ⟨l, c, h1, h2⟩ := e
    exact ⟨l, c, h _ _ h1, h2⟩
  | .eslice, w, e => by simpa [VR] using e
  | .mapp b, w, e => by
    simp only [VR] at e ⊢
    obtain ⟨l, h1, h2⟩ := e
    exact ⟨l, h _ _ h1, h2⟩
  | .func fn f c, w, e => by
    simp only [VR] at e ⊢
    obtain ⟨f', c', h1, h2, h3⟩ := e
    exact ⟨f', c', h1, VRs.mono h f _ h2, VRs.mono h c _ h3⟩
  | .iface t v, w, e => by
    simp only [VR] at e ⊢
    obtain ⟨v', h1, h2⟩ := e
    exact ⟨v', h1, VR.mono h v _ h2⟩
  | .agg cs, w, e => by
    simp only [VR] at e ⊢
    obtain ⟨a, h1, h2⟩ := e
    exact ⟨a, h1, VRs.mono h cs _ h2⟩
  | .tuple cs, w, e => by
    simp only [VR] at e ⊢
    obtain ⟨a, h1, h2⟩ := e
    exact ⟨a, h1, VRs.mono h cs _ h2⟩
  | .yld b, w, e => by
    simp only [VR] at e ⊢
    obtain ⟨l, h1, h2⟩ := e
    exact ⟨l, h _ _ h1, h2⟩
  | .one, w, e => by simpa [VR] using e
  | .ex x, w, e => by
    simp only [VR] at e ⊢
    exact ⟨Exp.ev_mono h e.1, e.2⟩
  | .nan, w, e => by simpa only [VR] using e
theorem VRs.mono {ρ ρ' : Place} (h : ρ.le ρ') : ∀ (a : List AV) (w : List Value), VRs ρ a w → VRs ρ' a w
  | [], w, e => by simpa [VRs] using e
  | a :: as, w, e => by
    simp only [VRs] at e ⊢
    obtain ⟨v, vs, h1, h2, h3⟩ := e
    exact ⟨v, vs, h1, VR.mono h a _ h2, VRs.mono h as _ h3⟩
end
theorem VRs.length {ρ : Place} : ∀ {a : List AV} {w : List Value}, VRs ρ a w → a.length = w.length
  | [], _, e => by simp only [VRs] at e; simp [e]
  | a :: as, w, e => by
    simp only [VRs] at e
    obtain ⟨v, vs, h1, _, h3⟩ := e
    subst h1
    simp [VRs.length h3]
theorem VRs.get {ρ : Place} : ∀ {a : List AV} {w : List Value}, VRs ρ a w → ∀ (i : Nat) (x : AV), a[i]? = some x → ∃ v, w[i]? = some v ∧ VR ρ x v
  | [], _, _, i, x, hx => by simp at hx
  | a :: as, w, e, i, x, hx => by
    simp only [VRs] at e
    obtain ⟨v, vs, h1, h2, h3⟩ := e
    subst h1
    cases i with
    | zero => simp at hx; subst hx; exact ⟨v, by simp, h2⟩
    | succ i => simp at hx ⊢; exact VRs.get h3 i x hx
theorem VRs.append {ρ : Place} : ∀ {a b : List AV} {v w : List Value}, VRs ρ a v → VRs ρ b w → VRs ρ (a ++ b) (v ++ w)
  | [], b, v, w, h, k => by simp only [VRs] at h; subst h; simpa using k
  | a :: as, b, v, w, h, k => by
    simp only [VRs] at h
    obtain ⟨x, xs, h1, h2, h3⟩ := h
    subst h1
    simp only [List.cons_append, VRs]
    exact ⟨x, xs ++ w, rfl, h2, VRs.append h3 k⟩
theorem VRs.of_get {ρ : Place} : ∀ {a : List AV} {w : List Value}, a.length = w.length → (∀ (i : Nat) (x : AV) (v : Value), a[i]? = some x → w[i]? = some v → VR ρ x v) → VRs ρ a w
  | [], w, hl, _ => by
    simp only [VRs]
    exact List.length_eq_zero_iff.1 (by simpa using hl.symm)
  | a :: as, [], hl, _ => by simp at hl
  | a :: as, w :: ws, hl, h => by
    simp only [VRs]
    refine ⟨w, ws, rfl, h 0 a w (by simp) (by simp), VRs.of_get (by simpa using hl) fun i x v hx hv => h (i + 1) x v (by simpa using hx) (by simpa using hv)⟩
theorem VRs.lits {ρ : Place} : ∀ (l : List Value), VRs ρ (l.map .lit) l
  | [] => by simp [VRs]
  | v :: vs => by
    simp only [List.map_cons, VRs]
    exact ⟨v, vs, rfl, by simp [VR], VRs.lits vs⟩
mutual
def AV.lit? : AV → Option Value
  | .lit v => some v
  | .iface t v => match v.lit? with
    | some x => some (.iface t x)
    | none => none
  | .agg cs => match lits? cs with
    | some l => some (.agg l.toArray)
    | none => none
  | .tuple cs => match lits? cs with
    | some l => some (.tuple l.toArray)
    | none => none
  | .func fn f c => match lits? f, lits? c with
    | some x, some y => some (.func fn x.toArray y.toArray)
    | _, _ => none
  | _ => none
def lits? : List AV → Option (List Value)
  | [] => some []
  | a :: as => match a.lit? with
    | some v => match lits? as with
      | some vs => some (v :: vs)
      | none => none
    | none => none
end
mutual
theorem VR.lit {ρ : Place} : ∀ (a : AV) (w v : Value), VR ρ a w → a.lit? = some v → w = v
  | .unk, _, _, _, h => by simp [AV.lit?] at h
  | .lit x, w, v, e, h => by simp only [VR] at e; simp only [AV.lit?, Option.some.injEq] at h; rw [e, h]
  | .ptr .., _, _, _, h => by simp [AV.lit?] at h
  | .slice .., _, _, _, h => by simp [AV.lit?] at h
  | .eslice, _, _, _, h => by simp [AV.lit?] at h
  | .mapp _, _, _, _, h => by simp [AV.lit?] at h
  | .yld _, _, _, _, h => by simp [AV.lit?] at h
  | .one, _, _, _, h => by simp [AV.lit?] at h
  | .ex _, _, _, _, h => by simp [AV.lit?] at h
  | .nan, _, _, _, h => by simp [AV.lit?] at h
  | .func fn f c, w, v, e, h => by
    simp only [VR] at e
    obtain ⟨f', c', h1, h2, h3⟩ := e
    simp only [AV.lit?] at h
    split at h
    · rename_i x y hx hy
      have a1 := VRs.lit f _ x h2 hx
      have a2 := VRs.lit c _ y h3 hy
      simp only [Option.some.injEq] at h
      rw [h1, ← h, ← a1, ← a2]
    · cases h
  | .iface t x, w, v, e, h => by
    simp only [VR] at e
    obtain ⟨v', h1, h2⟩ := e
    simp only [AV.lit?] at h
    split at h
    · rename_i y hy
      have := VR.lit x _ y h2 hy
      simp only [Option.some.injEq] at h
      rw [h1, ← h, this]
    · cases h
  | .agg cs, w, v, e, h => by
    simp only [VR] at e
    obtain ⟨a, h1, h2⟩ := e
    simp only [AV.lit?] at h
    split at h
    · rename_i y hy
      have := VRs.lit cs _ y h2 hy
      simp only [Option.some.injEq] at h
      rw [h1, ← h, ← this]
    · cases h
  | .tuple cs, w, v, e, h => by
    simp only [VR] at e
    obtain ⟨a, h1, h2⟩ := e
    simp only [AV.lit?] at h
    split at h
    · rename_i y hy
      have := VRs.lit cs _ y h2 hy
      simp only [Option.some.injEq] at h
      rw [h1, ← h, ← this]
    · cases h
theorem VRs.lit {ρ : Place} : ∀ (a : List AV) (w v : List Value), VRs ρ a w → lits? a = some v → w = v
  | [], w, v, e, h => by simp only [VRs] at e; simp only [lits?, Option.some.injEq] at h; rw [e, h]
  | a :: as, w, v, e, h => by
    simp only [VRs] at e
    obtain ⟨x, xs, h1, h2, h3⟩ := e
    simp only [lits?] at h
    split at h
    · rename_i y hy
      have b1 := VR.lit a _ y h2 hy
      split at h
      · rename_i ys hys
        have b2 := VRs.lit as _ ys h3 hys
        simp only [Option.some.injEq] at h
        rw [h1, ← h, b1, b2]
      · cases h
    · cases h
end
def AV.cells? : AV → Option (List AV)
  | .unk => none
  | .agg cs => some cs
  | .lit (.agg cs) => some (cs.toList.map .lit)
  | a => some [a]
theorem VR.cells {ρ : Place} {a : AV} {w : Value} {l : List AV} (h : VR ρ a w) (hl : a.cells? = some l) : VRs ρ l w.cells.toList := by
  have one : ∀ {x : AV}, VR ρ x w → (∀ cs, w ≠ .agg cs) → VRs ρ [x] w.cells.toList := by
    intro x hx hn
    have : w.cells = #[w] := by
      cases w <;> first | rfl | exact absurd rfl (hn _)
    rw [this]
    simp only [VRs]
    exact ⟨w, [], rfl, hx, rfl⟩
  cases a with
  | unk => simp [AV.cells?] at hl
  | agg cs =>
    simp only [AV.cells?, Option.some.injEq] at hl
    subst hl
    simp only [VR] at h
    obtain ⟨a, h1, h2⟩ := h
    subst h1
    exact h2
  | lit v =>
    simp only [VR] at h
    subst h
    cases w with
    | agg cs =>
      simp only [AV.cells?, Option.some.injEq] at hl
      subst hl
      exact VRs.lits _
    | _ =>
      simp only [AV.cells?, Option.some.injEq] at hl
      subst hl
      exact one (by simp [VR]) (by intro cs; simp)
  | ptr b off =>
    simp only [AV.cells?, Option.some.injEq] at hl; subst hl
    exact one h (by simp only [VR] at h; obtain ⟨_, _, e⟩ := h; intro cs; simp [e])
  | slice b off len cap esz =>
    simp only [AV.cells?, Option.some.injEq] at hl; subst hl
    exact one h (by simp only [VR] at h; obtain ⟨_, _, _, e, _⟩ := h; intro cs; simp [e])
  | eslice =>
    simp only [AV.cells?, Option.some.injEq] at hl; subst hl
    exact one h (by simp only [VR] at h; obtain ⟨_, _, e⟩ := h; intro cs; simp [e])
  | mapp b =>
    simp only [AV.cells?, Option.some.injEq] at hl; subst hl
    exact one h (by simp only [VR] at h; obtain ⟨_, _, e⟩ := h; intro cs; simp [e])
  | func fn f c =>
    simp only [AV.cells?, Option.some.injEq] at hl; subst hl
    exact one h (by simp only [VR] at h; obtain ⟨_, _, e, _⟩ := h; intro cs; simp [e])
  | iface t v =>
    simp only [AV.cells?, Option.some.injEq] at hl; subst hl
    exact one h (by simp only [VR] at h; obtain ⟨_, e, _⟩ := h; intro cs; simp [e])
  | tuple cs =>
    simp only [AV.cells?, Option.some.injEq] at hl; subst hl
    exact one h (by simp only [VR] at h; obtain ⟨_, e, _⟩ := h; intro cs; simp [e])
  | yld b =>
    simp only [AV.cells?, Option.some.injEq] at hl; subst hl
    exact one h (by simp only [VR] at h; obtain ⟨_, _, e⟩ := h; intro cs; simp [e])
  | one =>
    simp only [AV.cells?, Option.some.injEq] at hl; subst hl
    exact one h (by simp only [VR] at h; intro cs e; rw [e] at h; simp [Value.oneCell'] at h)
  | ex e =>
    simp only [AV.cells?, Option.some.injEq] at hl; subst hl
    exact one h (by simp only [VR] at h; obtain ⟨_, h⟩ := h; intro cs e; rw [e] at h; simp [Value.oneCell'] at h)
  | nan =>
    simp only [AV.cells?, Option.some.injEq] at hl; subst hl
    exact one h (by simp only [VR] at h; obtain ⟨_, e, _⟩ := h; intro cs; simp [e])
def pureRun (P : Program) {α : Type} : Sem α → Option α
  | .pure a => some a
  | .program k => pureRun P (k P)
  | .mark _ k => pureRun P k
  | _ => none
theorem pureRun_run {P : Program} {α : Type} : ∀ (s : Sem α) (a : α), pureRun P s = some a → ∀ w, s.run P w = .ok a w := by
  intro s
  induction s with
  | pure x => intro a h w; simp only [pureRun, Option.some.injEq] at h; subst h; rfl
  | program k ih => intro a h w; simp only [pureRun] at h; simp only [Sem.run]; exact ih P a h w
  | mark m k ih => intro a h w; simp only [pureRun] at h; simp only [Sem.run]; exact ih a h w
  | _ => intro a h; simp [pureRun] at h
inductive AB where
  | cells (elem : TypeId) (n : Nat) (cs : T AV) (row : Bool) (fz : Nat) (back : Bool)
  | map (es : List (AV × AV × Nat)) (clock : Nat)
  | siter (s : ByteArray) (pos : Nat)
  | miter (m : Option Nat) (since : Nat) (seen : List Nat) (last : Nat)
  | defd (live : Bool)
  | loop (state : LoopState) (pend : Option Code) (F : T AV) (n : Nat) (params : Array Tmp) (assign body : Code) (dfr : Nat)
structure Mem where
  next : Nat
  bl : T AB
structure Env where
  P : Program
  fn : T Func
  gl : T (T Value)
  ext : T Nat
  bt : TypeId
  con : FuncId → List AV → Option AV := fun _ _ => none
  opc : Op → (Operand → AV) → Option AV := fun _ _ => none
  opn : Op → (Operand → AV) → Option AV := fun _ _ => none
  sy : Place := fun _ => none
  old : Nat → Option (Option Obj) := fun _ => none
  tys : T Ty := .leaf
  facts : List (Exp × Bool) := []
def Env.gcell (E : Env) (g off : Nat) : Option Value :=
  match E.gl.get g with
  | some t => t.get off
  | none => none
def Env.Still (E : Env) (base : Nat) (w : World) : Prop :=
  (∀ g off v, E.gcell g off = some v → g < base ∧ w.cell? ⟨g, off, none⟩ = some v) ∧ ∀ k o, E.old k = some o → k < base ∧ w.heap[k]? = o
theorem Env.Still.mono {E : Env} {base : Nat} {w w' : World} (h : E.Still base w) (hk : ∀ k, k < base → w'.heap[k]? = w.heap[k]?) : E.Still base w' := by
  refine ⟨fun g off v hv => ?_, fun k o ho => ?_⟩
  · obtain ⟨h1, h2⟩ := h.1 g off v hv
    refine ⟨h1, ?_⟩
    rw [← h2]
    simp only [World.cell?]
    rw [hk g h1]
  · obtain ⟨h1, h2⟩ := h.2 k o ho
    exact ⟨h1, by rw [hk k h1]; exact h2⟩
def ER (ρ : Place) : List (AV × AV × Nat) → List MapEntry → Prop
  | [], es => es = []
  | (k, v, n) :: r, es => ∃ e es', es = e :: es' ∧ VR ρ k e.key ∧ VR ρ v e.val ∧ e.born = n ∧ ER ρ r es'
theorem ER.mono {ρ ρ' : Place} (h : ρ.le ρ') : ∀ {a : List (AV × AV × Nat)} {es : List MapEntry}, ER ρ a es → ER ρ' a es
  | [], _, e => e
  | (k, v, n) :: r, _, e => by
    simp only [ER] at e ⊢
    obtain ⟨x, xs, h1, h2, h3, h4, h5⟩ := e
    exact ⟨x, xs, h1, h2.mono h, h3.mono h, h4, ER.mono h h5⟩
def cellOf (cs : T AV) (i : Nat) : AV :=
  match cs.get i with
  | some v => v
  | none => .unk
def MR (ρ : Place) : Option Nat → Option Nat → Prop
  | none, mb => mb = none
  | some b, mb => ∃ l, ρ b = some l ∧ mb = some l.blk
theorem MR.mono {ρ ρ' : Place} (h : ρ.le ρ') {m mb : Option Nat} (e : MR ρ m mb) : MR ρ' m mb := by
  cases m with
  | none => exact e
  | some b => obtain ⟨l, h1, h2⟩ := e; exact ⟨l, h _ _ h1, h2⟩
def LR (ρ : Place) (F : T AV) (n : Nat) (tmps : Array Value) : Prop :=
  tmps.size = n ∧ ∀ t, VR ρ (cellOf F t) (tmps.getD t undef)
theorem LR.mono {ρ ρ' : Place} (h : ρ.le ρ') {F : T AV} {n : Nat} {tmps : Array Value} (e : LR ρ F n tmps) : LR ρ' F n tmps :=
  ⟨e.1, fun t => (e.2 t).mono h⟩
def BR (ρ : Place) (l : Loc) (x : AB) (w : World) : Prop :=
  match x with
  | .cells elem n cs row fz back => ∃ arr lo hi, w.heap[l.blk]? = some (.cells arr elem (lo, hi)) ∧ l.off = 0 ∧ l.off + n ≤ l.ext ∧ l.ext ≤ arr.size ∧
      (row = false → arr.size = n) ∧ (∀ i, i < n → ∃ v, arr[l.off + i]? = some v ∧ VR ρ (cellOf cs i) v) ∧
      (∀ o, l.off + fz ≤ o → o < l.ext → ¬ (lo ≤ o ∧ o < hi)) ∧ (back = false → hi ≤ l.off + fz)
  | .map es clock => l.off = 0 ∧ ∃ ents, w.heap[l.blk]? = some (.map ents clock) ∧ ER ρ es ents.toList
  | .siter s pos => l.off = 0 ∧ w.heap[l.blk]? = some (.stringIter s pos)
  | .miter m since seen last => l.off = 0 ∧ ∃ mb, MR ρ m mb ∧ w.heap[l.blk]? = some (.mapIter mb since seen.toArray last)
  | .defd live => l.off = 0 ∧ w.heap[l.blk]? = some (.deferred (cond live (some []) none))
  | .loop state pend F n params assign body dfr => l.off = 0 ∧ ∃ fn tmps ld, ρ dfr = some ld ∧ LR ρ F n tmps ∧
      w.heap[l.blk]? = some (.loop { state := state, pending := pend, fn := fn, tmps := tmps, params := params, assign := assign, body := body, defers := ld.blk })
theorem BR.mono {ρ ρ' : Place} (h : ρ.le ρ') {l : Loc} {x : AB} {w : World} (e : BR ρ l x w) : BR ρ' l x w := by
  cases x with
  | cells elem n cs row fz back =>
    obtain ⟨arr, lo, hi, h1, h0, h2, h3, h4, h5, h6, h7⟩ := e
    exact ⟨arr, lo, hi, h1, h0, h2, h3, h4, fun i hi => let ⟨v, a, b⟩ := h5 i hi; ⟨v, a, b.mono h⟩, h6, h7⟩
  | map es clock =>
    obtain ⟨h0, ents, h1, h2⟩ := e
    exact ⟨h0, ents, h1, h2.mono h⟩
  | siter s pos => exact e
  | miter m since seen last =>
    obtain ⟨h0, mb, h1, h2⟩ := e
    exact ⟨h0, mb, h1.mono h, h2⟩
  | defd live => exact e
  | loop state pend F n params assign body dfr =>
    obtain ⟨h0, fn, tmps, ld, h1, h2, h3⟩ := e
    exact ⟨h0, fn, tmps, ld, h _ _ h1, h2.mono h, h3⟩
theorem BR.congr {ρ : Place} {l : Loc} {x : AB} {w w' : World} (hw : w'.heap[l.blk]? = w.heap[l.blk]?) (e : BR ρ l x w) : BR ρ l x w' := by
  cases x <;> simp only [BR, hw] at e ⊢ <;> exact e
theorem BR.here {ρ : Place} {l : Loc} {x : AB} {w : World} (e : BR ρ l x w) : l.blk < w.heap.size := by
  have : ∃ o, w.heap[l.blk]? = some o := by
    cases x with
    | cells => obtain ⟨arr, lo, hi, h1, _⟩ := e; exact ⟨_, h1⟩
    | map => obtain ⟨_, ents, h1, _⟩ := e; exact ⟨_, h1⟩
    | siter => obtain ⟨_, h1⟩ := e; exact ⟨_, h1⟩
    | miter => obtain ⟨_, _, _, h1⟩ := e; exact ⟨_, h1⟩
    | defd => obtain ⟨_, h1⟩ := e; exact ⟨_, h1⟩
    | loop => obtain ⟨_, _, _, _, _, _, h1⟩ := e; exact ⟨_, h1⟩
  obtain ⟨o, ho⟩ := this
  rcases Nat.lt_or_ge l.blk w.heap.size with h | h
  · exact h
  · rw [Array.getElem?_eq_none h] at ho; cases ho
structure Cons (E : Env) (base : Nat) (ρ : Place) (M : Mem) (w : World) : Prop where
  blk : ∀ b x, M.bl.get b = some x → ∃ l, ρ b = some l ∧ BR ρ l x w
  inj : ∀ b b' x x' l l', M.bl.get b = some x → M.bl.get b' = some x' → ρ b = some l → ρ b' = some l' → l.blk = l'.blk → b = b'
  bound : ∀ b l, ρ b = some l → b < M.next
  low : ∀ b l, ρ b = some l → base ≤ l.blk
  glob : E.Still base w
  sym : E.sy.le ρ
structure Step (E : Env) (base : Nat) (ρ : Place) (w : World) (M : Mem) (ρ' : Place) (w' : World) (M' : Mem) : Prop where
  ext : ρ.le ρ'
  cons : Cons E base ρ' M' w'
  frame : ∀ k, k < w.heap.size → (∀ b x l, M.bl.get b = some x → ρ b = some l → l.blk ≠ k) → w'.heap[k]? = w.heap[k]?
  size : w.heap.size ≤ w'.heap.size
  img : ∀ b x l, M'.bl.get b = some x → ρ' b = some l → w.heap.size ≤ l.blk ∨ ∃ b0 x0 l0, M.bl.get b0 = some x0 ∧ ρ b0 = some l0 ∧ l0.blk = l.blk
  fresh : ∀ b l, ρ' b = some l → ρ b = some l ∨ M.next ≤ b
  next : M.next ≤ M'.next
  os : w'.os = w.os
  tape : w'.tape = w.tape
  output : w'.output = w.output
theorem Step.refl {E : Env} {base : Nat} {ρ : Place} {M : Mem} {w : World} (h : Cons E base ρ M w) : Step E base ρ w M ρ w M where
  ext := .refl ρ
  cons := h
  frame _ _ _ := rfl
  size := Nat.le_refl _
  img b x l hb hl := .inr ⟨b, x, l, hb, hl, rfl⟩
  fresh _ _ h := .inl h
  next := Nat.le_refl _
  os := rfl
  tape := rfl
  output := rfl
theorem Step.trans {E : Env} {base : Nat} {ρ ρ' ρ'' : Place} {M M' M'' : Mem} {w w' w'' : World} (h : Step E base ρ w M ρ' w' M') (k : Step E base ρ' w' M' ρ'' w'' M'') :
    Step E base ρ w M ρ'' w'' M'' where
  ext := h.ext.trans k.ext
  cons := k.cons
  frame i hi hn := by
    rw [k.frame i (Nat.lt_of_lt_of_le hi h.size) ?_, h.frame i hi hn]
    intro b x l hb hl e
    rcases h.img b x l hb hl with hge | ⟨b0, x0, l0, h1, h2, h3⟩
    · omega
    · exact hn b0 x0 l0 h1 h2 (h3.trans e)
  size := Nat.le_trans h.size k.size
  img b x l hb hl := by
    rcases k.img b x l hb hl with hge | ⟨b0, x0, l0, h1, h2, h3⟩
    · exact .inl (Nat.le_trans h.size hge)
    · rcases h.img b0 x0 l0 h1 h2 with hge | ⟨b1, x1, l1, k1, k2, k3⟩
      · exact .inl (h3 ▸ hge)
      · exact .inr ⟨b1, x1, l1, k1, k2, k3.trans h3⟩
  fresh b l hl := by
    rcases k.fresh b l hl with h1 | h1
    · exact h.fresh b l h1
    · exact .inr (Nat.le_trans h.next h1)
  next := Nat.le_trans h.next k.next
  os := k.os.trans h.os
  tape := k.tape.trans h.tape
  output := k.output.trans h.output
theorem Step.below {E : Env} {base : Nat} {ρ ρ' : Place} {M M' : Mem} {w w' : World} (h : Step E base ρ w M ρ' w' M') (hc : Cons E base ρ M w) (hb : base ≤ w.heap.size) :
    RowKit.Below base w w' :=
  ⟨h.os, h.tape, h.output, h.size, fun k hk => h.frame k (Nat.lt_of_lt_of_le hk hb) fun b x l _ hl e => by have := hc.low b l hl; omega⟩
theorem Cons.of_heap {E : Env} {base : Nat} {ρ : Place} {M : Mem} {w w' : World} (h : Cons E base ρ M w) (hh : w'.heap = w.heap) : Cons E base ρ M w' where
  blk b x hx := let ⟨l, hl, hb⟩ := h.blk b x hx; ⟨l, hl, hb.congr (by rw [hh])⟩
  inj := h.inj
  bound := h.bound
  low := h.low
  glob := h.glob.mono fun k _ => by rw [hh]
  sym := h.sym
theorem Step.drawn {E : Env} {base : Nat} {ρ : Place} {M : Mem} {w w' : World} (h : Cons E base ρ M w) (hh : w'.heap = w.heap) (h1 : w'.os = w.os) (h2 : w'.tape = w.tape) (h3 : w'.output = w.output) :
    Step E base ρ w M ρ w' M where
  ext := .refl ρ
  cons := h.of_heap hh
  frame _ _ _ := by rw [hh]
  size := by rw [hh]; exact Nat.le_refl _
  img b x l hb hl := .inr ⟨b, x, l, hb, hl, rfl⟩
  fresh _ _ h := .inl h
  next := Nat.le_refl _
  os := h1
  tape := h2
  output := h3
def Place.upd (ρ : Place) (b : Nat) (l : Loc) : Place := fun c => if c = b then some l else ρ c
theorem Place.upd_same (ρ : Place) (b : Nat) (l : Loc) : ρ.upd b l b = some l := by simp [Place.upd]
theorem Place.upd_other (ρ : Place) (b c : Nat) (l : Loc) (h : c ≠ b) : ρ.upd b l c = ρ c := by simp [Place.upd, h]
theorem Place.le_upd {ρ : Place} {b : Nat} {l : Loc} (h : ρ b = none) : ρ.le (ρ.upd b l) := by
  intro c m hc
  by_cases e : c = b
  · subst e; rw [h] at hc; cases hc
  · rw [Place.upd_other _ _ _ _ e]; exact hc
theorem Cons.push {E : Env} {base : Nat} {ρ : Place} {M : Mem} {w w' : World} (hc : Cons E base ρ M w) (hbase : base ≤ w.heap.size) {b next : Nat} {x : AB} {l : Loc}
    (hb : ρ b = none) (hM : M.next ≤ next) (hbn : b < next) (hl : l.blk = w.heap.size)
    (hold : ∀ k, k < w.heap.size → w'.heap[k]? = w.heap[k]?)
    (hx : BR (ρ.upd b l) l x w') : Cons E base (ρ.upd b l) ⟨next, M.bl.set b x⟩ w' where
  blk c y hy := by
    simp only [T.get_set] at hy
    by_cases e : c = b
    · subst e
      rw [if_pos rfl, Option.some.injEq] at hy
      subst hy
      exact ⟨l, Place.upd_same _ _ _, hx⟩
    · rw [if_neg e] at hy
      obtain ⟨m, hm, hbr⟩ := hc.blk c y hy
      exact ⟨m, by rw [Place.upd_other _ _ _ _ e]; exact hm, (hbr.mono (Place.le_upd hb)).congr (hold _ hbr.here)⟩
  inj c c' y y' m m' hy hy' hm hm' he := by
    simp only [T.get_set] at hy hy'
    by_cases e : c = b <;> by_cases e' : c' = b
    · rw [e, e']
    · exfalso
      subst e
      rw [if_neg e'] at hy'
      rw [Place.upd_same, Option.some.injEq] at hm
      rw [Place.upd_other _ _ _ _ e'] at hm'
      obtain ⟨m2, hm2, hbr⟩ := hc.blk c' y' hy'
      rw [hm', Option.some.injEq] at hm2
      have := hbr.here
      rw [← hm2, ← he, ← hm, hl] at this
      omega
    · exfalso
      subst e'
      rw [if_neg e] at hy
      rw [Place.upd_same, Option.some.injEq] at hm'
      rw [Place.upd_other _ _ _ _ e] at hm
      obtain ⟨m2, hm2, hbr⟩ := hc.blk c y hy
      rw [hm, Option.some.injEq] at hm2
      have := hbr.here
      rw [← hm2, he, ← hm', hl] at this
      omega
    · rw [if_neg e] at hy
      rw [if_neg e'] at hy'
      rw [Place.upd_other _ _ _ _ e] at hm
      rw [Place.upd_other _ _ _ _ e'] at hm'
      exact hc.inj c c' y y' m m' hy hy' hm hm' he
  bound c m hm := by
    by_cases e : c = b
    · subst e; exact hbn
    · rw [Place.upd_other _ _ _ _ e] at hm
      exact Nat.lt_of_lt_of_le (hc.bound c m hm) hM
  low c m hm := by
    by_cases e : c = b
    · subst e
      rw [Place.upd_same, Option.some.injEq] at hm
      rw [← hm, hl]; exact hbase
    · rw [Place.upd_other _ _ _ _ e] at hm
      exact hc.low c m hm
  glob := hc.glob.mono fun k hk => hold k (Nat.lt_of_lt_of_le hk hbase)
  sym := hc.sym.trans (Place.le_upd hb)
theorem Step.push {E : Env} {base : Nat} {ρ : Place} {M : Mem} {w w' : World} (hc : Cons E base ρ M w) (hbase : base ≤ w.heap.size) {b next : Nat} {x : AB} {l : Loc}
    (hb : ρ b = none) (hM : M.next ≤ next) (hbn : b < next) (hbM : M.next ≤ b) (hl : l.blk = w.heap.size)
    (hsz : w'.heap.size = w.heap.size + 1) (hold : ∀ k, k < w.heap.size → w'.heap[k]? = w.heap[k]?)
    (hx : BR (ρ.upd b l) l x w') (h1 : w'.os = w.os) (h2 : w'.tape = w.tape) (h3 : w'.output = w.output) :
    Step E base ρ w M (ρ.upd b l) w' ⟨next, M.bl.set b x⟩ where
  ext := Place.le_upd hb
  cons := hc.push hbase hb hM hbn hl hold hx
  frame k hk _ := hold k hk
  size := by omega
  img c y m hy hm := by
    simp only [T.get_set] at hy
    by_cases e : c = b
    · subst e
      rw [Place.upd_same, Option.some.injEq] at hm
      exact .inl (by rw [← hm, hl]; exact Nat.le_refl _)
    · rw [if_neg e] at hy
      rw [Place.upd_other _ _ _ _ e] at hm
      exact .inr ⟨c, y, m, hy, hm, rfl⟩
  fresh c m hm := by
    by_cases e : c = b
    · subst e; exact .inr hbM
    · rw [Place.upd_other _ _ _ _ e] at hm; exact .inl hm
  next := hM
  os := h1
  tape := h2
  output := h3
theorem Step.over {E : Env} {base : Nat} {ρ : Place} {M : Mem} {w w' : World} (hc : Cons E base ρ M w) {b : Nat} {x y : AB} {l : Loc}
    (hx : M.bl.get b = some x) (hl : ρ b = some l) (hsz : w'.heap.size = w.heap.size) (hold : ∀ k, k ≠ l.blk → w'.heap[k]? = w.heap[k]?)
    (hy : BR ρ l y w') (h1 : w'.os = w.os) (h2 : w'.tape = w.tape) (h3 : w'.output = w.output) :
    Step E base ρ w M ρ w' ⟨M.next, M.bl.set b y⟩ where
  ext := .refl ρ
  cons := {
    blk := fun c z hz => by
      simp only [T.get_set] at hz
      by_cases e : c = b
      · subst e
        rw [if_pos rfl, Option.some.injEq] at hz
        subst hz
        exact ⟨l, hl, hy⟩
      · rw [if_neg e] at hz
        obtain ⟨m, hm, hbr⟩ := hc.blk c z hz
        refine ⟨m, hm, hbr.congr (hold _ fun he => e ?_)⟩
        exact hc.inj c b z x m l hz hx hm hl he
    inj := fun c c' z z' m m' hz hz' hm hm' he => by
      simp only [T.get_set] at hz hz'
      have : ∃ z, M.bl.get c = some z := by
        by_cases e : c = b
        · subst e; exact ⟨x, hx⟩
        · rw [if_neg e] at hz; exact ⟨z, hz⟩
      obtain ⟨u, hu⟩ := this
      have : ∃ z, M.bl.get c' = some z := by
        by_cases e : c' = b
        · subst e; exact ⟨x, hx⟩
        · rw [if_neg e] at hz'; exact ⟨z', hz'⟩
      obtain ⟨u', hu'⟩ := this
      exact hc.inj c c' u u' m m' hu hu' hm hm' he
    bound := hc.bound
    low := hc.low
    glob := hc.glob.mono fun k hk => hold k (by have := hc.low b l hl; omega)
    sym := hc.sym }
  frame k hk hn := hold k fun e => hn b x l hx hl e.symm
  size := by omega
  img c z m hz hm := by
    simp only [T.get_set] at hz
    by_cases e : c = b
    · subst e
      exact .inr ⟨c, x, m, hx, hm, rfl⟩
    · rw [if_neg e] at hz
      exact .inr ⟨c, z, m, hz, hm, rfl⟩
  fresh c m hm := .inl hm
  next := Nat.le_refl _
  os := h1
  tape := h2
  output := h3
theorem Step.turn {E : Env} {base : Nat} {ρ : Place} {M : Mem} {w w' : World} (hc : Cons E base ρ M w) {b c next : Nat} {x y : AB} {l m : Loc}
    (hx : M.bl.get b = some x) (hl : ρ b = some l) (hcρ : ρ c = none) (hcM : M.next ≤ c) (hcn : c < next) (hm : m.blk = l.blk) (hsz : w'.heap.size = w.heap.size)
    (hold : ∀ k, k ≠ l.blk → w'.heap[k]? = w.heap[k]?)
    (hy : BR (ρ.upd c m) m y w') (h1 : w'.os = w.os) (h2 : w'.tape = w.tape) (h3 : w'.output = w.output) :
    Step E base ρ w M (ρ.upd c m) w' ⟨next, (M.bl.del b).set c y⟩ where
  ext := Place.le_upd hcρ
  cons := {
    blk := fun d z hz => by
      simp only [T.get_set, T.get_del] at hz
      by_cases e : d = c
      · subst e
        rw [if_pos rfl, Option.some.injEq] at hz
        subst hz
        exact ⟨m, Place.upd_same _ _ _, hy⟩
      · rw [if_neg e] at hz
        by_cases e2 : d = b
        · rw [if_pos e2] at hz; cases hz
        · rw [if_neg e2] at hz
          obtain ⟨n, hn, hbr⟩ := hc.blk d z hz
          refine ⟨n, by rw [Place.upd_other _ _ _ _ e]; exact hn, (hbr.mono (Place.le_upd hcρ)).congr (hold _ fun he => e2 ?_)⟩
          exact hc.inj d b z x n l hz hx hn hl he
    inj := fun d d' z z' n n' hz hz' hn hn' he => by
      simp only [T.get_set, T.get_del] at hz hz'
      have key : ∀ d z n, (if d = c then some y else if d = b then none else M.bl.get d) = some z → ρ.upd c m d = some n →
          (d = c ∧ n.blk = l.blk) ∨ (d ≠ c ∧ d ≠ b ∧ M.bl.get d = some z ∧ ρ d = some n) := by
        intro d z n hz hn
        by_cases e : d = c
        · subst e
          rw [Place.upd_same, Option.some.injEq] at hn
          exact .inl ⟨rfl, by rw [← hn, hm]⟩
        · rw [if_neg e] at hz
          rw [Place.upd_other _ _ _ _ e] at hn
          by_cases e2 : d = b
          · rw [if_pos e2] at hz; cases hz
          · rw [if_neg e2] at hz
            exact .inr ⟨e, e2, hz, hn⟩
      rcases key d z n hz hn with ⟨a1, a2⟩ | ⟨a1, a2, a3, a4⟩ <;> rcases key d' z' n' hz' hn' with ⟨b1, b2⟩ | ⟨b1, b2, b3, b4⟩
      · rw [a1, b1]
      · exact absurd (hc.inj b d' x z' l n' hx b3 hl b4 (by rw [← he, a2])) (fun e => b2 e.symm)
      · exact absurd (hc.inj d b z x n l a3 hx a4 hl (by rw [he, b2])) a2
      · exact hc.inj d d' z z' n n' a3 b3 a4 b4 he
    bound := fun d n hn => by
      by_cases e : d = c
      · subst e; exact hcn
      · rw [Place.upd_other _ _ _ _ e] at hn
        show d < next
        have := hc.bound d n hn
        omega
    low := fun d n hn => by
      by_cases e : d = c
      · subst e
        rw [Place.upd_same, Option.some.injEq] at hn
        rw [← hn, hm]; exact hc.low b l hl
      · rw [Place.upd_other _ _ _ _ e] at hn
        exact hc.low d n hn
    glob := hc.glob.mono fun k hk => hold k (by have := hc.low b l hl; omega)
    sym := hc.sym.trans (Place.le_upd hcρ) }
  frame k hk hn := hold k fun e => hn b x l hx hl e.symm
  size := by omega
  img d z n hz hn := by
    simp only [T.get_set, T.get_del] at hz
    by_cases e : d = c
    · subst e
      rw [Place.upd_same, Option.some.injEq] at hn
      exact .inr ⟨b, x, l, hx, hl, by rw [← hn, hm]⟩
    · rw [if_neg e] at hz
      rw [Place.upd_other _ _ _ _ e] at hn
      by_cases e2 : d = b
      · rw [if_pos e2] at hz; cases hz
      · rw [if_neg e2] at hz
        exact .inr ⟨d, z, n, hz, hn, rfl⟩
  fresh d n hn := by
    by_cases e : d = c
    · subst e; exact .inr hcM
    · rw [Place.upd_other _ _ _ _ e] at hn; exact .inl hn
  next := by show M.next ≤ next; omega
  os := h1
  tape := h2
  output := h3
def opd (F : T AV) : Operand → AV
  | .tmp t => match F.get t with
    | some v => v
    | none => .unk
  | .const v => .lit v
  | .global g => .lit (.pointer (some ⟨g, 0, none⟩))
  | .func f => .lit (.func (.func f) #[] #[])
structure FR (ρ : Place) (F : T AV) (n : Nat) (a : Act) : Prop where
  size : a.tmps.size = n
  get : ∀ t, VR ρ (opd F (.tmp t)) (a.tmps.getD t undef)
theorem FR.eval {ρ : Place} {F : T AV} {n : Nat} {a : Act} (h : FR ρ F n a) (x : Operand) : VR ρ (opd F x) (a.eval x) := by
  cases x with
  | tmp t => exact h.get t
  | const v => simp [opd, VR, Act.eval]
  | global g => simp [opd, VR, Act.eval]
  | func f => simp [opd, VR, Act.eval]
theorem FR.mono {ρ ρ' : Place} {F : T AV} {n : Nat} {a : Act} (h : FR ρ F n a) (k : ρ.le ρ') : FR ρ' F n a :=
  ⟨h.size, fun t => (h.get t).mono k⟩
theorem FR.evals {ρ : Place} {F : T AV} {n : Nat} {a : Act} (h : FR ρ F n a) : ∀ (l : List Operand), VRs ρ (l.map (opd F)) (l.map a.eval)
  | [] => by simp [VRs]
  | x :: xs => by
    simp only [List.map_cons, VRs]
    exact ⟨_, _, rfl, h.eval x, FR.evals h xs⟩
def put (F : T AV) (n : Nat) (dst : Option Tmp) (v : AV) : Option (T AV) :=
  match dst with
  | none => some F
  | some d => cond (Nat.blt d n) (some (F.set d v)) none
theorem FR.put {ρ : Place} {F F' : T AV} {n : Nat} {a : Act} (h : FR ρ F n a) {dst : Option Tmp} {v : AV} {x : Value} (hv : VR ρ v x)
    (hp : put F n dst v = some F') : FR ρ F' n (a.put dst x) := by
  cases dst with
  | none => simp only [Rx.put, Option.some.injEq] at hp; subst hp; exact h
  | some d =>
    simp only [Rx.put] at hp
    cases hd : Nat.blt d n with
    | false => rw [hd] at hp; simp at hp
    | true =>
      rw [hd] at hp
      simp only [cond_true, Option.some.injEq] at hp
      subst hp
      have hlt : d < n := by simpa [Nat.blt_eq] using hd
      refine ⟨by simp [Act.put, h.size], fun t => ?_⟩
      simp only [opd, T.get_set, Act.put, Array.getD_eq_getD_getElem?, Array.getElem?_setIfInBounds, h.size]
      by_cases e : t = d
      · subst e
        simp [hlt, hv]
      · have e' : ¬ d = t := fun k => e k.symm
        simp only [e, e', if_false]
        have := h.get t
        simpa [opd, Array.getD_eq_getD_getElem?] using this
def litEv (F : T AV) (x : Operand) : Value :=
  match (opd F x).lit? with
  | some v => v
  | none => undef
def allLit (F : T AV) : List Operand → Bool
  | [] => true
  | x :: xs => match (opd F x).lit? with
    | some _ => allLit F xs
    | none => false
theorem allLit_eval {ρ : Place} {F : T AV} {n : Nat} {a : Act} (h : FR ρ F n a) : ∀ (l : List Operand), allLit F l = true → ∀ x ∈ l, litEv F x = a.eval x
  | [], _, x, hx => by simp at hx
  | y :: ys, hl, x, hx => by
    simp only [allLit] at hl
    split at hl
    · rename_i v hv
      rcases List.mem_cons.1 hx with rfl | hx
      · simp only [litEv, hv]
        exact ((h.eval x).lit _ _ _ hv).symm
      · exact allLit_eval h ys hl x hx
    · cases hl
def noSel : Op → Bool
  | .select .. => false
  | _ => true
def litOp (P : Program) (F : T AV) (o : Oper) : Option AV :=
  match noSel o.op with
  | true => match allLit F o.op.operands.toList with
    | true => match pureRun P (execOp (litEv F) o) with
      | some (.value v) => some (.lit v)
      | _ => none
    | false => none
  | false => none
theorem litOp_ok {P : Program} {ρ : Place} {F : T AV} {n : Nat} {a : Act} (h : FR ρ F n a) {o : Oper} {v : AV} (hl : litOp P F o = some v) (w : World) :
    ∃ x, (execOp a.eval o).run P w = .ok (.value x) w ∧ VR ρ v x := by
  unfold litOp at hl
  split at hl
  · rename_i hs
    split at hl
    · rename_i ha
      split at hl
      · rename_i x hx
        simp only [Option.some.injEq] at hl
        subst hl
        have he : execOp a.eval o = execOp (litEv F) o := execOp_congr o (fun cs b e => by rw [e] at hs; simp [noSel] at hs)
          fun y hy => (allLit_eval h _ ha y (by simpa using hy)).symm
        rw [he]
        exact ⟨x, pureRun_run _ _ hx w, by simp [VR]⟩
      · cases hl
    · cases hl
  · cases hl
def cellsFrom (cs : T AV) : Nat → Nat → List AV
  | _, 0 => []
  | off, n + 1 => cellOf cs off :: cellsFrom cs (off + 1) n
theorem cellsFrom_length (cs : T AV) : ∀ (n off : Nat), (cellsFrom cs off n).length = n
  | 0, _ => rfl
  | n + 1, off => by simp [cellsFrom, cellsFrom_length cs n]
theorem cellsFrom_get (cs : T AV) : ∀ (n off i : Nat), i < n → (cellsFrom cs off n)[i]? = some (cellOf cs (off + i))
  | 0, _, _, h => by omega
  | n + 1, off, 0, _ => by simp [cellsFrom]
  | n + 1, off, i + 1, h => by
    simp only [cellsFrom, List.getElem?_cons_succ]
    rw [cellsFrom_get cs n (off + 1) i (by omega)]
    rw [show off + 1 + i = off + (i + 1) from by omega]
def readA (M : Mem) (b off n : Nat) : Option (List AV) :=
  match M.bl.get b with
  | some (.cells _ m cs _ _ _) => cond (Nat.ble (off + n) m) (some (cellsFrom cs off n)) none
  | _ => none
theorem choose_vals {α : Type} {p : Nat → α → Prop} : ∀ (n : Nat), (∀ i, i < n → ∃ v, p i v) → ∃ l : List α, l.length = n ∧ ∀ i v, l[i]? = some v → p i v
  | 0, _ => ⟨[], rfl, fun i v h => by simp at h⟩
  | n + 1, h => by
    obtain ⟨l, hl, hp⟩ := choose_vals n (fun i hi => h i (by omega))
    obtain ⟨v, hv⟩ := h n (by omega)
    refine ⟨l ++ [v], by simp [hl], fun i x hx => ?_⟩
    by_cases hi : i < l.length
    · rw [List.getElem?_append_left hi] at hx
      exact hp i x hx
    · rw [List.getElem?_append_right (by omega)] at hx
      have : i - l.length = 0 := by
        rcases Nat.eq_zero_or_pos (i - l.length) with e | e
        · exact e
        · rw [List.getElem?_eq_none (by simp; omega)] at hx; cases hx
      rw [this] at hx
      simp at hx
      subst hx
      have : i = n := by omega
      subst this
      exact hv
theorem readA_ok {E : Env} {base : Nat} {ρ : Place} {M : Mem} {w : World} (hc : Cons E base ρ M w) {b off n : Nat} {vs : List AV} (h : readA M b off n = some vs) :
    ∃ l xs, ρ b = some l ∧ xs.length = n ∧ VRs ρ vs xs ∧ w.rangeAt l.blk (l.off + off) xs := by
  unfold readA at h
  split at h
  · rename_i e m cs row fz back hb
    cases hle : Nat.ble (off + n) m with
    | false => rw [hle] at h; simp at h
    | true =>
      rw [hle] at h
      simp only [cond_true, Option.some.injEq] at h
      subst h
      have hle' : off + n ≤ m := by simpa [Nat.ble_eq] using hle
      obtain ⟨l, hl, arr, lo, hi, h1, _, h2, h3, h4, h5, h6, h7⟩ := hc.blk b _ hb
      obtain ⟨xs, hx1, hx2⟩ := choose_vals (p := fun i v => arr[l.off + (off + i)]? = some v ∧ VR ρ (cellOf cs (off + i)) v) n (fun i hi => h5 (off + i) (by omega))
      refine ⟨l, xs, hl, hx1, VRs.of_get (by rw [cellsFrom_length, hx1]) fun i x v hxi hvi => ?_, fun j v hj => ?_⟩
      · have hlt : i < n := by
          rcases Nat.lt_or_ge i n with h | h
          · exact h
          · rw [List.getElem?_eq_none (by omega)] at hvi; cases hvi
        rw [cellsFrom_get cs n off i hlt, Option.some.injEq] at hxi
        rw [← hxi]
        exact (hx2 i v hvi).2
      · have := (hx2 j v hj).1
        simp only [World.cell?, h1]
        rw [show l.off + off + j = l.off + (off + j) from by omega]
        simpa using this
  · cases h
def readG (E : Env) (g : Nat) : Nat → Nat → Option (List AV)
  | _, 0 => some []
  | off, n + 1 => match E.gcell g off with
    | some v => match readG E g (off + 1) n with
      | some l => some (.lit v :: l)
      | none => none
    | none => none
theorem readG_ok {E : Env} {base : Nat} {ρ : Place} {M : Mem} {w : World} (hc : Cons E base ρ M w) (g : Nat) : ∀ (n off : Nat) (vs : List AV), readG E g off n = some vs →
    ∃ xs, xs.length = n ∧ VRs ρ vs xs ∧ w.rangeAt g off xs
  | 0, off, vs, h => by
    simp only [readG, Option.some.injEq] at h
    subst h
    exact ⟨[], rfl, by simp [VRs], fun j v hj => by simp at hj⟩
  | n + 1, off, vs, h => by
    simp only [readG] at h
    split at h
    · rename_i v hv
      split at h
      · rename_i l hl
        simp only [Option.some.injEq] at h
        subst h
        obtain ⟨xs, h1, h2, h3⟩ := readG_ok hc g n (off + 1) l hl
        refine ⟨v :: xs, by simp [h1], ?_, fun j u hj => ?_⟩
        · simp only [VRs]
          exact ⟨v, xs, rfl, by simp [VR], h2⟩
        · cases j with
          | zero =>
            simp at hj
            subst hj
            simpa using (hc.glob.1 g off v hv).2
          | succ j =>
            simp at hj
            have := h3 j u hj
            rwa [show off + 1 + j = off + (j + 1) from by omega] at this
      · cases h
    · cases h
def readAt (E : Env) (M : Mem) (p : AV) (n : Nat) : Option (List AV) :=
  match p with
  | .ptr b off => readA M b off n
  | .lit (.pointer (some ⟨g, off, none⟩)) => readG E g off n
  | _ => none
theorem readAt_ok {E : Env} {base : Nat} {ρ : Place} {M : Mem} {w : World} (hc : Cons E base ρ M w) {p : AV} {x : Value} (hp : VR ρ p x) {n : Nat} {vs : List AV}
    (h : readAt E M p n = some vs) : ∃ b o xs, x = .pointer (some ⟨b, o, none⟩) ∧ xs.length = n ∧ VRs ρ vs xs ∧ w.rangeAt b o xs := by
  unfold readAt at h
  split at h
  · rename_i b off
    simp only [VR] at hp
    obtain ⟨l, hl, hx⟩ := hp
    obtain ⟨l', xs, h1, h2, h3, h4⟩ := readA_ok hc h
    rw [hl, Option.some.injEq] at h1
    subst h1
    exact ⟨_, _, xs, hx, h2, h3, h4⟩
  · rename_i g off
    simp only [VR] at hp
    obtain ⟨xs, h2, h3, h4⟩ := readG_ok hc g n off vs h
    exact ⟨_, _, xs, hp, h2, h3, h4⟩
  · cases h
def isRow : TypeDesc → Bool
  | .struct _ | .array _ _ => true
  | _ => false
theorem isRow_eq (d : TypeDesc) : isRow d = d.isRow := by cases d <;> rfl
theorem run_isAgg {P : Program} {t : TypeId} {d : TypeDesc} (h : P.underlying t = some d) (w : World) : (isAgg t).run P w = .ok (isRow d) w := by
  unfold isAgg
  rw [Sem.run_bind, run_underlying h w]
  cases d <;> rfl
theorem run_typeInfo' {P : Program} {t : TypeId} {i : TypeInfo} (h : P.info? t = some i) (w : World) : (typeInfo t).run P w = .ok i w := by
  simp [typeInfo, h]
theorem run_sizeOf {P : Program} {t : TypeId} {i : TypeInfo} (h : P.info? t = some i) (w : World) : (sizeOf t).run P w = .ok i.size w := by
  simp [sizeOf, run_typeInfo' h]
theorem run_zeroValue {P : Program} {t : TypeId} {i : TypeInfo} {z : Value} (h : P.info? t = some i) (hz : i.zero = some z) (w : World) : (zeroValue t).run P w = .ok z w := by
  simp [zeroValue, run_typeInfo' h, hz]
def loadA (E : Env) (M : Mem) (t : TypeId) (p : AV) : Option AV :=
  match E.P.underlying t with
  | some d => match isRow d with
    | true => match E.P.info? t with
      | some i => match readAt E M p i.size with
        | some vs => some (.agg vs)
        | none => none
      | none => none
    | false => match readAt E M p 1 with
      | some [v] => some v
      | _ => none
  | none => none
theorem loadA_ok {E : Env} {base : Nat} {ρ : Place} {M : Mem} {w : World} (hc : Cons E base ρ M w) {t : TypeId} {p v : AV} {x : Value} (hp : VR ρ p x)
    (h : loadA E M t p = some v) : ∃ y, (Instr.loadAt t x).run E.P w = .ok y w ∧ VR ρ v y := by
  unfold loadA at h
  split at h
  · rename_i d hd
    split at h
    · rename_i hr
      split at h
      · rename_i i hi
        split at h
        · rename_i vs hvs
          simp only [Option.some.injEq] at h
          subst h
          obtain ⟨b, o, xs, rfl, h2, h3, h4⟩ := readAt_ok hc hp hvs
          refine ⟨.agg xs.toArray, run_loadAt_mid w b o t xs d h4 hd (by rw [← isRow_eq]; exact hr) (by simp [hi, h2]), ?_⟩
          simp only [VR]
          exact ⟨_, rfl, by simpa using h3⟩
        · cases h
      · cases h
    · rename_i hr
      split at h
      · rename_i u hvs
        simp only [Option.some.injEq] at h
        subst h
        obtain ⟨b, o, xs, rfl, h2, h3, h4⟩ := readAt_ok hc hp hvs
        simp only [VRs] at h3
        obtain ⟨y, ys, rfl, h5, rfl⟩ := h3
        refine ⟨y, ?_, h5⟩
        have hcell := h4 0 y (by simp)
        simp only [Nat.add_zero] at hcell
        simp only [Instr.loadAt, Instr.sureAddr, Sem.run_bind, Sem.run_pure, Result.andThen_ok, loadVar, run_isAgg hd, hr]
        simp [hcell]
      · cases h
  · cases h
def partA (P : Program) (t : TypeId) (cs : List AV) (off : Nat) : Option AV :=
  match P.underlying t with
  | some d => match isRow d with
    | true => match P.info? t with
      | some i => some (.agg ((cs.drop off).take i.size))
      | none => none
    | false => cs[off]?
  | none => none
theorem VRs.take {ρ : Place} : ∀ {a : List AV} {w : List Value} (n : Nat), VRs ρ a w → VRs ρ (a.take n) (w.take n)
  | _, _, 0, _ => by simp [VRs]
  | [], w, n + 1, h => by simp only [VRs] at h; subst h; simp [VRs]
  | a :: as, w, n + 1, h => by
    simp only [VRs] at h
    obtain ⟨x, xs, rfl, h2, h3⟩ := h
    simp only [List.take_succ_cons, VRs]
    exact ⟨_, _, rfl, h2, VRs.take n h3⟩
theorem VRs.drop {ρ : Place} : ∀ {a : List AV} {w : List Value} (n : Nat), VRs ρ a w → VRs ρ (a.drop n) (w.drop n)
  | _, _, 0, h => by simpa using h
  | [], w, n + 1, h => by simp only [VRs] at h; subst h; simp [VRs]
  | a :: as, w, n + 1, h => by
    simp only [VRs] at h
    obtain ⟨x, xs, rfl, h2, h3⟩ := h
    simpa using VRs.drop n h3
theorem partA_ok {P : Program} {ρ : Place} {t : TypeId} {cs : List AV} {xs : Array Value} (hx : VRs ρ cs xs.toList) {off : Nat} {v : AV} (h : partA P t cs off = some v) (w : World) :
    ∃ y, (part t xs off).run P w = .ok y w ∧ VR ρ v y := by
  unfold partA at h
  split at h
  · rename_i d hd
    split at h
    · rename_i hr
      split at h
      · rename_i i hi
        simp only [Option.some.injEq] at h
        subst h
        refine ⟨.agg (xs.extract off (off + i.size)), ?_, ?_⟩
        · simp [part, run_isAgg hd, hr, run_sizeOf hi]
        · simp only [VR]
          refine ⟨_, rfl, ?_⟩
          have := (hx.drop off).take i.size
          rw [Array.toList_extract]
          simpa [List.extract_eq_take_drop] using this
      · cases h
    · rename_i hr
      obtain ⟨y, hy, hv⟩ := hx.get off v h
      refine ⟨y, ?_, hv⟩
      have hy' : xs[off]? = some y := by simpa using hy
      simp [part, run_isAgg hd, hr, hy']
  · cases h
open Go.Instr
def offBy (p : AV) (k : Nat) : Option AV :=
  match p with
  | .ptr b off => some (.ptr b (off + k))
  | _ => none
theorem addr_add (b o k : Nat) : (⟨b, o, none⟩ : Addr).add k = ⟨b, o + k, none⟩ := Addr.add_mid b o k
def fieldAddrA (P : Program) (s : TypeId) (p : AV) (f : Nat) : Option AV :=
  match P.underlying s with
  | some (.struct fs) => match fs[f]? with
    | some fd => match P.info? fd.type with
      | some i => match i.size with
        | 0 => none
        | _ + 1 => offBy p fd.offset
      | none => none
    | none => none
  | _ => none
theorem fieldAddrA_ok {P : Program} {ρ : Place} {s : TypeId} {p v : AV} {x : Value} {f : Nat} (hp : VR ρ p x) (h : fieldAddrA P s p f = some v) (w : World) :
    ∃ y, (fieldAt s x f).run P w = .ok y w ∧ VR ρ v y := by
  unfold fieldAddrA at h
  split at h
  · rename_i fs hfs
    split at h
    · rename_i fd hfd
      split at h
      · rename_i i hi
        split at h
        · cases h
        · rename_i n hn
          unfold offBy at h
          split at h
          · rename_i b off
            simp only [Option.some.injEq] at h
            subst h
            simp only [VR] at hp
            obtain ⟨l, hl, rfl⟩ := hp
            refine ⟨.pointer (some ⟨l.blk, l.off + off + fd.offset, none⟩), ?_, ?_⟩
            · simp [fieldAt, run_underlying hfs, hfd, sureAddr, fieldPlace, run_sizeOf hi, hn, addr_add]
            · simp only [VR]
              exact ⟨l, hl, by rw [Nat.add_assoc]⟩
          · cases h
      · cases h
    · cases h
  · cases h
def fieldA (P : Program) (t : TypeId) (x : AV) (f : Nat) : Option AV :=
  match P.underlying t with
  | some (.struct fs) => match fs[f]? with
    | some fd => match x with
      | .agg cs => partA P fd.type cs fd.offset
      | _ => none
    | none => none
  | _ => none
theorem fieldA_ok {P : Program} {ρ : Place} {t : TypeId} {p v : AV} {x : Value} {f : Nat} (hp : VR ρ p x) (h : fieldA P t p f = some v) (w : World) :
    ∃ y, (Instr.field t x f).run P w = .ok y w ∧ VR ρ v y := by
  unfold fieldA at h
  split at h
  · rename_i fs hfs
    split at h
    · rename_i fd hfd
      split at h
      · rename_i cs
        simp only [VR] at hp
        obtain ⟨xs, rfl, hxs⟩ := hp
        obtain ⟨y, hy, hv⟩ := partA_ok hxs h w
        exact ⟨y, by simp [Instr.field, run_underlying hfs, hfd, asAgg, hy], hv⟩
      · cases h
    · cases h
  · cases h
def indexAddrA (P : Program) (t : TypeId) (x i : AV) : Option AV :=
  match i with
  | .lit (.int _ n) => match P.underlying t with
    | some (.array len e) => match P.info? e with
      | some inf => cond (decide (0 ≤ n) && decide (n < len)) (offBy x (n.toNat * inf.size)) none
      | none => none
    | some (.slice e) => match P.info? e with
      | some inf => match x with
        | .slice b off len _ _ => cond (decide (0 ≤ n) && decide (n < len)) (some (.ptr b (off + n.toNat * inf.size))) none
        | _ => none
      | none => none
    | _ => none
  | _ => none
theorem indexAddrA_ok {P : Program} {ρ : Place} {t : TypeId} {p i v : AV} {x y : Value} (hp : VR ρ p x) (hi : VR ρ i y) (h : indexAddrA P t p i = some v) (w : World) :
    ∃ z, (indexAt t x y).run P w = .ok z w ∧ VR ρ v z := by
  unfold indexAddrA at h
  split at h
  · rename_i k n
    simp only [VR] at hi
    subst hi
    split at h
    · rename_i len e hu
      split at h
      · rename_i inf hinf
        cases hb : (decide (0 ≤ n) && decide (n < (len : Int))) with
        | false => rw [hb] at h; simp at h
        | true =>
          rw [hb] at h
          simp only [cond_true] at h
          simp only [Bool.and_eq_true, decide_eq_true_eq] at hb
          unfold offBy at h
          split at h
          · rename_i b off
            simp only [Option.some.injEq] at h
            subst h
            simp only [VR] at hp
            obtain ⟨l, hl, rfl⟩ := hp
            refine ⟨.pointer (some ⟨l.blk, l.off + off + n.toNat * inf.size, none⟩), ?_, ?_⟩
            · simp [indexAt, asIntOf, run_underlying hu, sureAddr, run_sizeOf hinf, hb, addr_add]
            · simp only [VR]
              exact ⟨l, hl, by rw [Nat.add_assoc]⟩
          · cases h
      · cases h
    · rename_i e hu
      split at h
      · rename_i inf hinf
        split at h
        · rename_i b off len cap esz
          cases hb : (decide (0 ≤ n) && decide (n < (len : Int))) with
          | false => rw [hb] at h; simp at h
          | true =>
            rw [hb] at h
            simp only [cond_true, Option.some.injEq] at h
            simp only [Bool.and_eq_true, decide_eq_true_eq] at hb
            subst h
            simp only [VR] at hp
            obtain ⟨l, c, hl, rfl, _⟩ := hp
            refine ⟨.pointer (some ⟨l.blk, l.off + off + n.toNat * inf.size, none⟩), ?_, ?_⟩
            · simp [indexAt, asIntOf, run_underlying hu, run_sizeOf hinf, hb, addr_add]
            · simp only [VR]
              exact ⟨l, hl, by rw [Nat.add_assoc]⟩
        · cases h
      · cases h
    · cases h
  · cases h
def indexA (P : Program) (t : TypeId) (x i : AV) : Option AV :=
  match i with
  | .lit (.int _ n) => match P.underlying t with
    | some (.array len e) => match P.info? e with
      | some inf => match x with
        | .agg cs => cond (decide (0 ≤ n) && decide (n < len)) (partA P e cs (n.toNat * inf.size)) none
        | _ => none
      | none => none
    | _ => none
  | _ => none
theorem indexA_ok {P : Program} {ρ : Place} {t : TypeId} {p i v : AV} {x y : Value} (hp : VR ρ p x) (hi : VR ρ i y) (h : indexA P t p i = some v) (w : World) :
    ∃ z, (Instr.index t x y).run P w = .ok z w ∧ VR ρ v z := by
  unfold indexA at h
  split at h
  · rename_i k n
    simp only [VR] at hi
    subst hi
    split at h
    · rename_i len e hu
      split at h
      · rename_i inf hinf
        split at h
        · rename_i cs
          cases hb : (decide (0 ≤ n) && decide (n < (len : Int))) with
          | false => rw [hb] at h; simp at h
          | true =>
            rw [hb] at h
            simp only [cond_true] at h
            simp only [Bool.and_eq_true, decide_eq_true_eq] at hb
            simp only [VR] at hp
            obtain ⟨xs, rfl, hxs⟩ := hp
            obtain ⟨z, hz, hv⟩ := partA_ok hxs h w
            exact ⟨z, by simp [Instr.index, asIntOf, run_underlying hu, run_sizeOf hinf, hb, hz], hv⟩
        · cases h
      · cases h
    · cases h
  · cases h
def boundA (F : T AV) (x : Option Operand) (dflt : Nat) : Option Nat :=
  match x with
  | none => some dflt
  | some y => match opd F y with
    | .lit (.int _ n) => match n with
      | .ofNat k => some k
      | .negSucc _ => none
    | _ => none
def sliceA (P : Program) (F : T AV) (t : TypeId) (x : AV) (lo hi : Option Operand) : Option AV :=
  match P.underlying t with
  | some (.slice e) => match P.info? e with
    | some inf => match x with
      | .slice b off len cap esz =>
        match boundA F hi len with
        | some h => match boundA F lo 0 with
          | some l => match cap with
            | some c => cond (Nat.ble h c && Nat.ble l h) (some (.slice b (cond (Nat.beq c l) off (off + l * inf.size)) (h - l) (some (c - l)) esz)) none
            | none => cond (Nat.ble h len && Nat.ble l h && Nat.beq esz inf.size)
                (cond (Nat.blt l len) (some (.slice b (off + l * inf.size) (h - l) none esz)) (cond (Nat.beq l 0) (some (.slice b off h none esz)) (some .eslice))) none
          | none => none
        | none => none
      | _ => none
    | none => none
  | some (.array n e) => match P.info? e with
    | some inf => match x with
      | .ptr b off =>
        match boundA F hi n with
        | some h => match boundA F lo 0 with
          | some l => cond (Nat.ble h n && Nat.ble l h) (some (.slice b (cond (Nat.beq n l) off (off + l * inf.size)) (h - l) (some (n - l)) inf.size)) none
          | none => none
        | none => none
      | _ => none
    | none => none
  | _ => none
theorem boundA_ok {P : Program} {ρ : Place} {F : T AV} {n : Nat} {a : Act} (hf : FR ρ F n a) {x : Option Operand} {d k : Nat} (h : boundA F x d = some k) (y : Nat) (code : BoundsCode) (hk : k ≤ y) (w : World) :
    (match x.map a.eval with
      | some v => (sliceBound v y code).run P w = .ok k w
      | none => k = d) := by
  cases x with
  | none => simp only [boundA, Option.some.injEq] at h; exact h.symm
  | some z =>
    simp only [boundA] at h
    have he := hf.eval z
    revert h he
    generalize opd F z = q
    intro h he
    split at h
    · rename_i kk n
      split at h
      · rename_i m
        simp only [Option.some.injEq] at h
        subst h
        simp only [VR] at he
        simp only [Option.map_some, he]
        have h1 : (0 : Int) ≤ Int.ofNat m := Int.natCast_nonneg m
        have h2 : (Int.ofNat m) ≤ (y : Int) := by simpa using hk
        simp only [sliceBound, asIntOf, Sem.run_bind, Sem.run_pure, Result.andThen_ok, h1, h2, and_self, if_true]
        rfl
      · cases h
    · cases h
theorem sliceBounds_ok {P : Program} {ρ : Place} {F : T AV} {n : Nat} {a : Act} (hf : FR ρ F n a) {lo hi : Option Operand} {h l len cap : Nat} (b : Bool)
    (hh : boundA F hi len = some h) (hl : boundA F lo 0 = some l) (h1 : h ≤ cap) (h2 : l ≤ h) (w : World) :
    (sliceBounds b len cap (lo.map a.eval) (hi.map a.eval) none).run P w = .ok (l, h, cap) w := by
  have k1 := boundA_ok (P := P) hf hh cap (if b then .sliceAcap else .sliceAlen) h1 w
  have k2 := boundA_ok (P := P) hf hl h .sliceB h2 w
  unfold sliceBounds
  cases hi with
  | none =>
    simp only [Option.map_none] at k1
    subst k1
    cases lo with
    | none =>
      simp only [Option.map_none] at k2
      subst k2
      simp
    | some y => simp only [Option.map_some] at k2; simp [k2]
  | some x =>
    simp only [Option.map_some] at k1
    cases lo with
    | none =>
      simp only [Option.map_none] at k2
      subst k2
      simp [k1]
    | some y => simp only [Option.map_some] at k2; simp [k1, k2]
theorem sliceA_ok {P : Program} {ρ : Place} {F : T AV} {n : Nat} {a : Act} (hf : FR ρ F n a) {t : TypeId} {p v : AV} {x : Value} {lo hi : Option Operand} (hp : VR ρ p x)
    (h : sliceA P F t p lo hi = some v) (w : World) :
    ∃ z, (Instr.sliceAt t x (lo.map a.eval) (hi.map a.eval) none).run P w = .ok z w ∧ VR ρ v z := by
  unfold sliceA at h
  split at h
  · rename_i e hu
    split at h
    · rename_i inf hinf
      split at h
      · rename_i b off len cap esz
        split at h
        · rename_i hh hhh
          split at h
          · rename_i l hl
            simp only [VR] at hp
            obtain ⟨lc, c, hlc, rfl, hcap⟩ := hp
            split at h
            · rename_i c'
              cases hb : (Nat.ble hh c' && Nat.ble l hh) with
              | false => rw [hb] at h; simp at h
              | true =>
                rw [hb] at h
                simp only [cond_true, Option.some.injEq] at h
                simp only [Bool.and_eq_true, Nat.ble_eq] at hb
                subst h
                simp only at hcap
                subst hcap
                have hs := sliceBounds_ok (P := P) hf true hhh hl hb.1 hb.2 w
                refine ⟨.slice (some (if c = l then ⟨lc.blk, lc.off + off, none⟩ else ⟨lc.blk, lc.off + off + l * inf.size, none⟩)) (hh - l) (c - l), ?_, ?_⟩
                · simp only [Instr.sliceAt, Sem.run_bind, run_underlying hu, Result.andThen_ok, Instr.slice, hs, run_sizeOf hinf, Sem.run_pure]
                  by_cases e : c = l <;> simp [e, addr_add]
                · simp only [VR]
                  refine ⟨lc, c - l, hlc, ?_, rfl⟩
                  by_cases e : c = l
                  · simp [e]
                  · have : Nat.beq c l = false := by
                      cases hq : Nat.beq c l with
                      | false => rfl
                      | true => exact absurd (Nat.eq_of_beq_eq_true hq) e
                    simp [e, this, Nat.add_assoc]
            · rename_i _
              cases hb : (Nat.ble hh len && Nat.ble l hh && Nat.beq esz inf.size) with
              | false => rw [hb] at h; simp at h
              | true =>
                rw [hb] at h
                simp only [cond_true] at h
                simp only [Bool.and_eq_true, Nat.ble_eq] at hb
                obtain ⟨⟨hb1, hb2⟩, hb3⟩ := hb
                have hesz : esz = inf.size := Nat.eq_of_beq_eq_true hb3
                simp only at hcap
                have hs := sliceBounds_ok (P := P) (cap := c) hf true hhh hl (by omega) hb2 w
                have hrun : (Instr.sliceAt t (.slice (some ⟨lc.blk, lc.off + off, none⟩) len c) (lo.map a.eval) (hi.map a.eval) none).run P w =
                    .ok (.slice (some (if c = l then ⟨lc.blk, lc.off + off, none⟩ else ⟨lc.blk, lc.off + off + l * inf.size, none⟩)) (hh - l) (c - l)) w := by
                  simp only [Instr.sliceAt, Sem.run_bind, run_underlying hu, Result.andThen_ok, Instr.slice, hs, run_sizeOf hinf, Sem.run_pure]
                  by_cases e : c = l <;> simp [e, addr_add]
                refine ⟨_, hrun, ?_⟩
                cases hlt : Nat.blt l len with
                | true =>
                  rw [hlt] at h
                  simp only [cond_true, Option.some.injEq] at h
                  subst h
                  have hlt' : l < len := by simpa [Nat.blt_eq] using hlt
                  simp only [VR]
                  refine ⟨lc, c - l, hlc, ?_, by omega, ?_⟩
                  · rw [if_neg (by omega)]; simp [Nat.add_assoc]
                  · rw [hesz] at hcap ⊢
                    have : (c - l) * inf.size + l * inf.size = c * inf.size := by rw [← Nat.add_mul]; congr 1; omega
                    omega
                | false =>
                  rw [hlt] at h
                  simp only [cond_false] at h
                  have hge : len ≤ l := by
                    rcases Nat.lt_or_ge l len with k | k
                    · have : Nat.blt l len = true := by simpa [Nat.blt_eq] using k
                      rw [this] at hlt; cases hlt
                    · exact k
                  have hll : l = len := by omega
                  have hhl : hh = len := by omega
                  cases h0 : Nat.beq l 0 with
                  | true =>
                    rw [h0] at h
                    simp only [cond_true, Option.some.injEq] at h
                    subst h
                    have h0' : l = 0 := Nat.eq_of_beq_eq_true h0
                    simp only [VR]
                    refine ⟨lc, c, hlc, ?_, by omega, hcap.2⟩
                    rw [h0']
                    by_cases e : c = 0 <;> simp [e]
                  | false =>
                    rw [h0] at h
                    simp only [cond_false, Option.some.injEq] at h
                    subst h
                    simp only [VR]
                    exact ⟨_, _, by rw [hhl, hll, Nat.sub_self]⟩
          · cases h
        · cases h
      · cases h
    · cases h
  · rename_i m e hu
    split at h
    · rename_i inf hinf
      split at h
      · rename_i b off
        split at h
        · rename_i hh hhh
          split at h
          · rename_i l hl
            simp only [VR] at hp
            obtain ⟨lc, hlc, rfl⟩ := hp
            cases hb : (Nat.ble hh m && Nat.ble l hh) with
            | false => rw [hb] at h; simp at h
            | true =>
              rw [hb] at h
              simp only [cond_true, Option.some.injEq] at h
              simp only [Bool.and_eq_true, Nat.ble_eq] at hb
              subst h
              have hs := sliceBounds_ok (P := P) hf false hhh hl hb.1 hb.2 w
              refine ⟨.slice (some (if m = l then ⟨lc.blk, lc.off + off, none⟩ else ⟨lc.blk, lc.off + off + l * inf.size, none⟩)) (hh - l) (m - l), ?_, ?_⟩
              · simp only [Instr.sliceAt, Sem.run_bind, run_underlying hu, Result.andThen_ok, sureAddr, Sem.run_pure, hs, run_sizeOf hinf]
                by_cases e : m = l <;> simp [e, addr_add]
              · simp only [VR]
                refine ⟨lc, m - l, hlc, ?_, rfl⟩
                by_cases e : m = l
                · simp [e]
                · have : Nat.beq m l = false := by
                    cases hq : Nat.beq m l with
                    | false => rfl
                    | true => exact absurd (Nat.eq_of_beq_eq_true hq) e
                  simp [e, this, Nat.add_assoc]
          · cases h
        · cases h
      · cases h
    · cases h
  · cases h
open Go.Instr
def over (cs : List AV) (off : Nat) (l : List AV) : List AV := cs.take off ++ (l ++ cs.drop (off + l.length))
def fillA (place : Nat → Option (Nat × Nat)) (cells : List AV) : List (Nat × AV) → Option (List AV)
  | [] => some cells
  | (i, v) :: rest => match place i with
    | none => none
    | some (off, size) => match v.cells? with
      | none => none
      | some l => cond (Nat.beq l.length size && Nat.ble (off + l.length) cells.length) (fillA place (over cells off l) rest) none
theorem foldl_set (off : Nat) : ∀ (l : List Value) (k : Nat) (cs : Array Value), off + k + l.length ≤ cs.size →
    ((l.zipIdx k).foldl (fun cs (x : Value × Nat) => cs.setIfInBounds (off + x.2) x.1) cs).toList = cs.toList.take (off + k) ++ (l ++ cs.toList.drop (off + k + l.length))
  | [], k, cs, _ => by simp
  | v :: vs, k, cs, h => by
    simp only [List.length_cons] at h
    simp only [List.zipIdx_cons, List.foldl_cons]
    rw [foldl_set off vs (k + 1) _ (by simp; omega)]
    have hlt : off + k < cs.toList.length := by simp; omega
    simp only [Array.toList_setIfInBounds, List.length_cons]
    rw [show off + (k + 1) = off + k + 1 from by omega, List.take_add_one, List.take_set_of_le (by omega), List.drop_set_of_lt (by omega)]
    have : (cs.toList.set (off + k) v)[off + k]? = some v := by
      rw [List.getElem?_set_self hlt]
    rw [this]
    simp [Nat.add_comm, Nat.add_left_comm, Nat.add_assoc]
theorem fillA_ok {ρ : Place} {place : Nat → Option (Nat × Nat)} : ∀ (parts : List (Nat × AV)) (vals : List (Nat × Value)) (cells : List AV) (xs : Array Value) (r : List AV),
    VRs ρ cells xs.toList → parts.map (·.1) = vals.map (·.1) → VRs ρ (parts.map (·.2)) (vals.map (·.2)) → fillA place cells parts = some r →
    ∃ ys, Instr.fill place xs vals = some ys ∧ VRs ρ r ys.toList
  | [], vals, cells, xs, r, hx, h1, _, h => by
    simp only [fillA, Option.some.injEq] at h
    subst h
    have : vals = [] := by simpa using h1.symm
    subst this
    exact ⟨xs, rfl, hx⟩
  | (i, v) :: rest, vals, cells, xs, r, hx, h1, h2, h => by
    simp only [List.map_cons, VRs] at h1 h2
    obtain ⟨y, ys', h3, h4, h5⟩ := h2
    cases vals with
    | nil => simp at h1
    | cons u us =>
      obtain ⟨j, y'⟩ := u
      simp only [List.map_cons, List.cons.injEq] at h1 h3
      obtain ⟨rfl, h1⟩ := h1
      obtain ⟨rfl, rfl⟩ := h3
      simp only [fillA] at h
      split at h
      · cases h
      · rename_i off size hp
        split at h
        · cases h
        · rename_i l hl
          cases hb : (Nat.beq l.length size && Nat.ble (off + l.length) cells.length) with
          | false => rw [hb] at h; simp at h
          | true =>
            rw [hb] at h
            simp only [cond_true] at h
            simp only [Bool.and_eq_true, Nat.ble_eq] at hb
            have hsz : l.length = size := Nat.eq_of_beq_eq_true hb.1
            have hc := h4.cells hl
            have hlen := hc.length
            have hxl := hx.length
            simp only [Array.length_toList] at hlen hxl
            have hle : off + y'.cells.size ≤ xs.size := by omega
            have hstep : (y'.cells.zipIdx.foldl (fun cs (x : Value × Nat) => cs.setIfInBounds (off + x.2) x.1) xs).toList = xs.toList.take off ++ (y'.cells.toList ++ xs.toList.drop (off + y'.cells.size)) := by
              have := foldl_set off y'.cells.toList 0 xs (by simpa using hle)
              rw [← Array.foldl_toList, Array.toList_zipIdx]
              simpa using this
            have hover : VRs ρ (over cells off l) (y'.cells.zipIdx.foldl (fun cs (x : Value × Nat) => cs.setIfInBounds (off + x.2) x.1) xs).toList := by
              rw [hstep]
              unfold over
              exact (hx.take off).append (hc.append (by rw [hlen]; exact hx.drop _))
            obtain ⟨zs, hz, hzr⟩ := fillA_ok rest us _ _ r hover h1 h5 h
            refine ⟨zs, ?_, hzr⟩
            have e1 : ¬ (y'.cells.size ≠ size) := by omega
            have e2 : ¬ (off + y'.cells.size > xs.size) := by omega
            simp only [Instr.fill, hp]
            rw [if_neg (by simp [e1]; omega)]
            exact hz
def buildA (P : Program) (t : TypeId) (parts : List (Nat × AV)) : Option AV :=
  match P.info? t with
  | some inf => match inf.zero with
    | some z => match P.underlying t with
      | some (.struct fields) => match pureRun P (fields.mapM fun f => do pure (f.offset, ← sizeOf f.type)) with
        | some places => match fillA (places[·]?) (z.cells.toList.map .lit) parts with
          | some cs => some (.agg cs)
          | none => none
        | none => none
      | some (.array _ e) => match P.info? e with
        | some ie => match fillA (fun i => some (i * ie.size, ie.size)) (z.cells.toList.map .lit) parts with
          | some cs => some (.agg cs)
          | none => none
        | none => none
      | _ => none
    | none => none
  | none => none
theorem buildA_ok {P : Program} {ρ : Place} {t : TypeId} {parts : List (Nat × AV)} {vals : Array (Nat × Value)} {v : AV}
    (h1 : parts.map (·.1) = vals.toList.map (·.1)) (h2 : VRs ρ (parts.map (·.2)) (vals.toList.map (·.2))) (h : buildA P t parts = some v) (w : World) :
    ∃ y, (Instr.build t vals).run P w = .ok y w ∧ VR ρ v y := by
  unfold buildA at h
  split at h
  · rename_i inf hinf
    split at h
    · rename_i z hz
      have hzr := run_zeroValue hinf hz w
      split at h
      · rename_i fields hu
        split at h
        · rename_i places hpl
          have hpr := pureRun_run _ _ hpl w
          split at h
          · rename_i cs hcs
            simp only [Option.some.injEq] at h
            subst h
            obtain ⟨ys, hy, hyr⟩ := fillA_ok parts vals.toList _ z.cells cs (VRs.lits _) h1 h2 hcs
            refine ⟨.agg ys, ?_, ?_⟩
            · simp only [Instr.build, Sem.run_bind, hzr, Result.andThen_ok, run_underlying hu, hpr, hy, Sem.run_pure]
            · simp only [VR]; exact ⟨ys, rfl, hyr⟩
          · cases h
        · cases h
      · rename_i m e hu
        split at h
        · rename_i ie hie
          split at h
          · rename_i cs hcs
            simp only [Option.some.injEq] at h
            subst h
            obtain ⟨ys, hy, hyr⟩ := fillA_ok parts vals.toList _ z.cells cs (VRs.lits _) h1 h2 hcs
            refine ⟨.agg ys, ?_, ?_⟩
            · simp [Instr.build, hzr, run_underlying hu, run_sizeOf hie, hy]
            · simp only [VR]; exact ⟨ys, rfl, hyr⟩
          · cases h
        · cases h
      · cases h
    · cases h
  · cases h
def failA (P : Program) (asserted : TypeId) (commaOk : Bool) : Option AV :=
  match commaOk with
  | true => match P.info? asserted with
    | some i => match i.zero with
      | some z => some (.tuple [.lit z, .lit (.bool false)])
      | none => none
    | none => none
  | false => none
def holdA (commaOk : Bool) (x : AV) : AV :=
  match commaOk with
  | true => .tuple [x, .lit (.bool true)]
  | false => x
def typeAssertA (P : Program) (x : AV) (asserted : TypeId) (commaOk : Bool) : Option AV :=
  match x with
  | .iface t v => match P.underlying asserted with
    | some (.interface want) => match P.info? t with
      | some i => match missingMethod want i.methods with
        | none => some (holdA commaOk (.iface t v))
        | some _ => failA P asserted commaOk
      | none => none
    | some _ => cond (Nat.beq t asserted) (some (holdA commaOk v)) (failA P asserted commaOk)
    | none => none
  | _ => none
theorem VR.hold {ρ : Place} {x : AV} {y : Value} (h : VR ρ x y) (ok : Bool) : VR ρ (holdA ok x) (if ok then .tuple #[y, .bool true] else y) := by
  cases ok with
  | false => simpa [holdA] using h
  | true =>
    simp only [holdA, if_true, VR, VRs]
    exact ⟨_, rfl, y, [.bool true], rfl, h, .bool true, [], rfl, rfl, rfl⟩
theorem typeAssertA_ok {P : Program} {ρ : Place} {x v : AV} {y : Value} {xt asserted : TypeId} {ok : Bool} (hx : VR ρ x y) (h : typeAssertA P x asserted ok = some v) (w : World) :
    ∃ z, (Instr.typeAssert y xt asserted ok).run P w = .ok z w ∧ VR ρ v z := by
  have fail : failA P asserted ok = some v → ok = true ∧ ∃ i z, P.info? asserted = some i ∧ i.zero = some z ∧ VR ρ v (.tuple #[z, .bool false]) := by
    intro h
    unfold failA at h
    split at h
    · split at h
      · rename_i i hi
        split at h
        · rename_i z hz
          simp only [Option.some.injEq] at h
          subst h
          refine ⟨rfl, i, z, hi, hz, ?_⟩
          simp only [VR, VRs]
          exact ⟨_, rfl, z, [.bool false], rfl, rfl, .bool false, [], rfl, rfl, rfl⟩
        · cases h
      · cases h
    · cases h
  unfold typeAssertA at h
  split at h
  · rename_i t u
    have hx0 := hx
    simp only [VR] at hx
    obtain ⟨u', rfl, hu'⟩ := hx
    split at h
    · rename_i want hw
      split at h
      · rename_i i hi
        split at h
        · rename_i hm
          simp only [Option.some.injEq] at h
          subst h
          exact ⟨_, by simp [Instr.typeAssert, run_underlying hw, run_typeInfo' hi, hm], hx0.hold ok⟩
        · rename_i m hm
          obtain ⟨rfl, j, z, hj, hz, hv⟩ := fail h
          exact ⟨_, by simp [Instr.typeAssert, run_underlying hw, run_typeInfo' hi, hm, run_zeroValue hj hz], hv⟩
      · cases h
    · rename_i d hne hd
      cases hb : Nat.beq t asserted with
      | true =>
        rw [hb] at h
        simp only [cond_true, Option.some.injEq] at h
        subst h
        have : t = asserted := Nat.eq_of_beq_eq_true hb
        subst this
        refine ⟨_, ?_, hu'.hold ok⟩
        cases d <;> first | exact absurd rfl (hne _) | (simp [Instr.typeAssert, run_underlying hd]; done)
      | false =>
        rw [hb] at h
        simp only [cond_false] at h
        have : t ≠ asserted := fun e => by subst e; simp at hb
        obtain ⟨rfl, j, z, hj, hz, hv⟩ := fail h
        refine ⟨_, ?_, hv⟩
        cases d <;> first | exact absurd rfl (hne _) | (simp [Instr.typeAssert, run_underlying hd, this, run_zeroValue hj hz]; done)
    · cases h
  · cases h
def eqA (P : Program) (t : TypeId) (x y : AV) : Option Bool :=
  match x, y with
  | .ptr _ _, .lit (.pointer none) => match P.underlying t with
    | some (.pointer _) => some false
    | _ => none
  | .lit (.pointer none), .ptr _ _ => match P.underlying t with
    | some (.pointer _) => some false
    | _ => none
  | .ptr b o, .ptr b' o' => match P.underlying t with
    | some (.pointer e) => match P.info? e with
      | some i => match i.size with
        | 0 => none
        | _ + 1 => cond (Nat.beq b b') (some (Nat.beq o o')) none
      | none => none
    | _ => none
  | .slice .., .lit (.slice none _ _) => match P.underlying t with
    | some (.slice _) => some false
    | _ => none
  | .eslice, .lit (.slice none _ _) => match P.underlying t with
    | some (.slice _) => some false
    | _ => none
  | .mapp _, .lit (.map none) => match P.underlying t with
    | some (.map _ _) => some false
    | _ => none
  | .func .., .lit .nilFunc => match P.underlying t with
    | some (.func ..) => some false
    | _ => none
  | .iface _ _, .lit .nilIface => match P.underlying t with
    | some (.interface _) => some false
    | _ => none
  | .lit .nilIface, .iface _ _ => match P.underlying t with
    | some (.interface _) => some false
    | _ => none
  | .iface a _, .lit (.iface b _) => match P.underlying t with
    | some (.interface _) => cond (Nat.beq a b) none (some false)
    | _ => none
  | .lit (.iface a _), .iface b _ => match P.underlying t with
    | some (.interface _) => cond (Nat.beq a b) none (some false)
    | _ => none
  | .iface a _, .iface b _ => match P.underlying t with
    | some (.interface _) => cond (Nat.beq a b) none (some false)
    | _ => none
  | _, _ => none
theorem eq_forms {P : Program} {t : TypeId} {u v : Value} {x y : Operand} {b : Bool} {w : World}
    (h : ∀ d, (Op.equalIn (d + 1) t u v).run P w = .ok b w) (hb : binOp .eql t u v = (do pure (.bool (← Op.equal t u v))) ∧ binOp .neq t u v = (do pure (.bool (!(← Op.equal t u v)))))
    (hg : ∀ op, eqGuard op t x y u v = pure ()) :
    ((do eqGuard .eql t x y u v; binOp .eql t u v) : Sem Value).run P w = .ok (.bool b) w ∧ ((do eqGuard .neq t x y u v; binOp .neq t u v) : Sem Value).run P w = .ok (.bool !b) w := by
  have he : (Op.equal t u v).run P w = .ok b w := h 9999
  rw [hg, hg, hb.1, hb.2]
  constructor
  · simp only [Sem.run_bind, Sem.run_pure, Result.andThen_ok, he]
  · simp only [Sem.run_bind, Sem.run_pure, Result.andThen_ok, he]
theorem eqA_ok {P : Program} {ρ : Place} {t : TypeId} {x y : AV} {u v : Value} {p q : Operand} {b : Bool} (hx : VR ρ x u) (hy : VR ρ y v) (h : eqA P t x y = some b) (w : World) :
    ((do eqGuard .eql t p q u v; binOp .eql t u v) : Sem Value).run P w = .ok (.bool b) w ∧ ((do eqGuard .neq t p q u v; binOp .neq t u v) : Sem Value).run P w = .ok (.bool !b) w := by
  unfold eqA at h
  split at h
  · split at h
    · rename_i e hu
      simp only [Option.some.injEq] at h
      subst h
      simp only [VR] at hx hy
      obtain ⟨l, hl, rfl⟩ := hx
      subst hy
      exact eq_forms (fun d => by simp [Op.equalIn, run_underlying hu]) ⟨rfl, rfl⟩ (fun op => eqGuard_at_pointer ..)
    · cases h
  · split at h
    · rename_i e hu
      simp only [Option.some.injEq] at h
      subst h
      simp only [VR] at hx hy
      obtain ⟨l, hl, rfl⟩ := hy
      subst hx
      exact eq_forms (fun d => by simp [Op.equalIn, run_underlying hu]) ⟨rfl, rfl⟩ (fun op => eqGuard_at_pointer ..)
    · cases h
  · rename_i b1 o1 b2 o2
    split at h
    · rename_i e hu
      split at h
      · rename_i i hi
        split at h
        · cases h
        · rename_i n hn
          cases hbb : Nat.beq b1 b2 with
          | false => rw [hbb] at h; simp at h
          | true =>
            rw [hbb] at h
            simp only [cond_true, Option.some.injEq] at h
            subst h
            have : b1 = b2 := Nat.eq_of_beq_eq_true hbb
            subst this
            simp only [VR] at hx hy
            obtain ⟨l, hl, rfl⟩ := hx
            obtain ⟨l', hl', rfl⟩ := hy
            rw [hl, Option.some.injEq] at hl'
            subst hl'
            have hsame : (sameAddr ⟨l.blk, l.off + o1, none⟩ ⟨l.blk, l.off + o2, none⟩).run P w = .ok (Nat.beq o1 o2) w := by
              simp only [sameAddr, beq_self_eq_true, if_true]
              have : ((⟨l.blk, l.off + o1, none⟩ : Addr) == ⟨l.blk, l.off + o2, none⟩) = Nat.beq o1 o2 := by
                cases ho : Nat.beq o1 o2 with
                | true => have := Nat.eq_of_beq_eq_true ho; subst this; simp
                | false =>
                  have hne : o1 ≠ o2 := fun e => by subst e; simp at ho
                  simp [hne]
              rw [this]; rfl
            exact eq_forms (fun d => by simp [Op.equalIn, run_underlying hu, run_sizeOf hi, hn, hsame]) ⟨rfl, rfl⟩ (fun op => eqGuard_at_pointer ..)
      · cases h
    · cases h
  · split at h
    · rename_i e hu
      simp only [Option.some.injEq] at h
      subst h
      simp only [VR] at hx hy
      obtain ⟨l, c, hl, rfl, _⟩ := hx
      subst hy
      exact eq_forms (fun d => by simp [Op.equalIn, run_underlying hu]) ⟨rfl, rfl⟩ (fun op => eqGuard_at_slice ..)
    · cases h
  · split at h
    · rename_i e hu
      simp only [Option.some.injEq] at h
      subst h
      simp only [VR] at hx hy
      obtain ⟨l, c, rfl⟩ := hx
      subst hy
      exact eq_forms (fun d => by simp [Op.equalIn, run_underlying hu]) ⟨rfl, rfl⟩ (fun op => eqGuard_at_slice ..)
    · cases h
  · split at h
    · rename_i e1 e2 hu
      simp only [Option.some.injEq] at h
      subst h
      simp only [VR] at hx hy
      obtain ⟨l, hl, rfl⟩ := hx
      subst hy
      exact eq_forms (fun d => by simp [Op.equalIn, run_underlying hu]) ⟨rfl, rfl⟩ (fun op => eqGuard_at_map ..)
    · cases h
  · split at h
    · rename_i e1 e2 e3 hu
      simp only [Option.some.injEq] at h
      subst h
      simp only [VR] at hx hy
      obtain ⟨l, c, rfl, _⟩ := hx
      subst hy
      exact eq_forms (fun d => by simp [Op.equalIn, run_underlying hu]) ⟨rfl, rfl⟩ (fun op => eqGuard_at_func ..)
    · cases h
  · split at h
    · rename_i e hu
      simp only [Option.some.injEq] at h
      subst h
      simp only [VR] at hx hy
      obtain ⟨l, rfl, _⟩ := hx
      subst hy
      exact eq_forms (fun d => by simp [Op.equalIn, run_underlying hu]) ⟨rfl, rfl⟩ (fun op => eqGuard_at_iface ..)
    · cases h
  · split at h
    · rename_i e hu
      simp only [Option.some.injEq] at h
      subst h
      simp only [VR] at hx hy
      obtain ⟨l, rfl, _⟩ := hy
      subst hx
      exact eq_forms (fun d => by simp [Op.equalIn, run_underlying hu]) ⟨rfl, rfl⟩ (fun op => eqGuard_nil_iface ..)
    · cases h
  · rename_i a _ c _
    split at h
    · rename_i e hu
      cases hbb : Nat.beq a c with
      | true => rw [hbb] at h; simp at h
      | false =>
        rw [hbb] at h
        simp only [cond_false, Option.some.injEq] at h
        subst h
        have hne : a ≠ c := fun e => by subst e; simp at hbb
        simp only [VR] at hx hy
        obtain ⟨l, rfl, _⟩ := hx
        subst hy
        exact eq_forms (fun d => by simp [Op.equalIn, run_underlying hu, hne]) ⟨rfl, rfl⟩ (fun op => eqGuard_at_iface ..)
    · cases h
  · rename_i a _ c _
    split at h
    · rename_i e hu
      cases hbb : Nat.beq a c with
      | true => rw [hbb] at h; simp at h
      | false =>
        rw [hbb] at h
        simp only [cond_false, Option.some.injEq] at h
        subst h
        have hne : a ≠ c := fun e => by subst e; simp at hbb
        simp only [VR] at hx hy
        obtain ⟨l, rfl, _⟩ := hy
        subst hx
        exact eq_forms (fun d => by simp [Op.equalIn, run_underlying hu, hne]) ⟨rfl, rfl⟩ (fun op => eqGuard_at_iface ..)
    · cases h
  · rename_i a _ c _
    split at h
    · rename_i e hu
      cases hbb : Nat.beq a c with
      | true => rw [hbb] at h; simp at h
      | false =>
        rw [hbb] at h
        simp only [cond_false, Option.some.injEq] at h
        subst h
        have hne : a ≠ c := fun e => by subst e; simp at hbb
        simp only [VR] at hx hy
        obtain ⟨l, rfl, _⟩ := hx
        obtain ⟨l', rfl, _⟩ := hy
        exact eq_forms (fun d => by simp [Op.equalIn, run_underlying hu, hne]) ⟨rfl, rfl⟩ (fun op => eqGuard_at_iface ..)
    · cases h
  · cases h
open Go.Instr
def oneA : AV → Bool
  | .unk => false
  | .lit v => v.oneCell'
  | .agg _ => false
  | .tuple _ => false
  | _ => true
theorem VR.one {ρ : Place} {a : AV} {w : Value} (h : VR ρ a w) (ha : oneA a = true) : w.oneCell' = true := by
  cases a with
  | unk => simp [oneA] at ha
  | lit v => simp only [VR] at h; subst h; exact ha
  | ptr => simp only [VR] at h; obtain ⟨_, _, rfl⟩ := h; rfl
  | slice => simp only [VR] at h; obtain ⟨_, _, _, rfl, _⟩ := h; rfl
  | eslice => simp only [VR] at h; obtain ⟨_, _, rfl⟩ := h; rfl
  | mapp => simp only [VR] at h; obtain ⟨_, _, rfl⟩ := h; rfl
  | func => simp only [VR] at h; obtain ⟨_, _, rfl, _⟩ := h; rfl
  | iface => simp only [VR] at h; obtain ⟨_, rfl, _⟩ := h; rfl
  | agg => simp [oneA] at ha
  | tuple => simp [oneA] at ha
  | yld => simp only [VR] at h; obtain ⟨_, _, rfl⟩ := h; rfl
  | one => simpa only [VR] using h
  | ex => simp only [VR] at h; exact h.2
  | nan => simp only [VR] at h; obtain ⟨_, rfl, _⟩ := h; rfl
def oneAll : List AV → Bool
  | [] => true
  | a :: as => match oneA a with
    | true => oneAll as
    | false => false
theorem VRs.one {ρ : Place} : ∀ {a : List AV} {w : List Value}, VRs ρ a w → oneAll a = true → ∀ v ∈ w, v.oneCell' = true
  | [], w, h, _, v, hv => by simp only [VRs] at h; subst h; simp at hv
  | a :: as, w, h, ho, v, hv => by
    simp only [VRs] at h
    obtain ⟨x, xs, rfl, h1, h2⟩ := h
    simp only [oneAll] at ho
    split at ho
    · rename_i h0
      rcases List.mem_cons.1 hv with rfl | hv
      · exact h1.one h0
      · exact VRs.one h2 ho v hv
    · cases ho
def putFrom (cs : T AV) : Nat → List AV → T AV
  | _, [] => cs
  | off, x :: xs => putFrom (cs.set off x) (off + 1) xs
theorem cellOf_putFrom : ∀ (l : List AV) (cs : T AV) (off i : Nat), cellOf (putFrom cs off l) i = if off ≤ i ∧ i < off + l.length then (l[i - off]?).getD .unk else cellOf cs i
  | [], cs, off, i => by simp only [putFrom, List.length_nil]; rw [if_neg (by omega)]
  | x :: xs, cs, off, i => by
    simp only [putFrom, List.length_cons]
    rw [cellOf_putFrom xs]
    by_cases h : off + 1 ≤ i ∧ i < off + 1 + xs.length
    · rw [if_pos h, if_pos (by omega)]
      obtain ⟨k, rfl⟩ : ∃ k, i = off + 1 + k := ⟨i - (off + 1), by omega⟩
      rw [show off + 1 + k - off = k + 1 from by omega, show off + 1 + k - (off + 1) = k from by omega]
      simp
    · rw [if_neg h]
      by_cases e : i = off
      · subst e
        rw [if_pos (by omega)]
        simp [cellOf, T.get_set]
      · rw [if_neg (by omega)]
        simp [cellOf, T.get_set, e]
theorem setCell_here {w : World} {b o : Nat} {arr : Array Value} {e : TypeId} {fz : Nat × Nat} (v : Value) (h : w.heap[b]? = some (.cells arr e fz)) :
    (w.setCell ⟨b, o, none⟩ v).heap[b]? = some (.cells (arr.setIfInBounds o v) e fz) := by
  obtain ⟨lo, hi⟩ := fz
  have hlt : b < w.heap.size := by
    rcases Nat.lt_or_ge b w.heap.size with k | k
    · exact k
    · rw [Array.getElem?_eq_none k] at h; cases h
  simp only [World.setCell]
  rw [Array.getElem?_modify]
  simp [h]
theorem setCells_here : ∀ (vs : List Value) (o : Nat) (w : World) (b : Nat) (arr : Array Value) (e : TypeId) (fz : Nat × Nat), w.heap[b]? = some (.cells arr e fz) →
    ∃ arr', (w.setCells b o vs).heap[b]? = some (.cells arr' e fz) ∧ arr'.size = arr.size ∧ (∀ j, o ≤ j → j < o + vs.length → j < arr.size → arr'[j]? = vs[j - o]?) ∧
      (∀ j, j < o ∨ o + vs.length ≤ j → arr'[j]? = arr[j]?)
  | [], o, w, b, arr, e, fz, h => ⟨arr, h, rfl, fun j h1 h2 _ => by simp at h2; omega, fun _ _ => rfl⟩
  | v :: vs, o, w, b, arr, e, fz, h => by
    obtain ⟨arr', h1, h2, h3, h4⟩ := setCells_here vs (o + 1) (w.setCell ⟨b, o, none⟩ v) b _ e fz (setCell_here v h)
    refine ⟨arr', h1, by simpa using h2, fun j j1 j2 j3 => ?_, fun j hj => ?_⟩
    · by_cases ej : j = o
      · subst ej
        rw [h4 j (by omega)]
        simp [j3]
      · rw [h3 j (by omega) (by simp at j2; omega) (by simpa using j3)]
        obtain ⟨k, rfl⟩ : ∃ k, j = o + 1 + k := ⟨j - (o + 1), by omega⟩
        rw [show o + 1 + k - o = k + 1 from by omega, show o + 1 + k - (o + 1) = k from by omega]
        simp
    · simp at hj
      rw [h4 j (by omega)]
      rw [Array.getElem?_setIfInBounds_ne (by omega)]
theorem setCells_size (b : Nat) : ∀ (vs : List Value) (o : Nat) (w : World), (w.setCells b o vs).heap.size = w.heap.size
  | [], _, _ => rfl
  | v :: vs, o, w => by rw [World.setCells, setCells_size b vs]; simp
theorem setCells_else (b : Nat) : ∀ (vs : List Value) (o : Nat) (w : World) (k : Nat), k ≠ b → (w.setCells b o vs).heap[k]? = w.heap[k]?
  | [], _, _, _, _ => rfl
  | v :: vs, o, w, k, h => by
    rw [World.setCells, setCells_else b vs _ _ k h]
    exact RowKit.Below.heap_setCell w _ v k h
theorem setCells_tape (b : Nat) : ∀ (vs : List Value) (o : Nat) (w : World), (w.setCells b o vs).tape = w.tape
  | [], _, _ => rfl
  | v :: vs, o, w => by rw [World.setCells, setCells_tape b vs]; rfl
theorem BR.write {ρ : Place} {l : Loc} {elem n : Nat} {cs : T AV} {row : Bool} {fz : Nat} {back : Bool} {w : World} (h : BR ρ l (.cells elem n cs row fz back) w)
    {off : Nat} {vals : List AV} {vs : List Value} (hv : VRs ρ vals vs) (_hn : off + vals.length ≤ n) :
    BR ρ l (.cells elem n (putFrom cs off vals) row fz back) (w.setCells l.blk (l.off + off) vs) := by
  obtain ⟨arr, lo, hi, h1, h0, h2, h3, h4, h5, h6, h7⟩ := h
  obtain ⟨arr', k1, k2, k3, k4⟩ := setCells_here vs (l.off + off) w l.blk arr elem (lo, hi) h1
  have hlen := hv.length
  refine ⟨arr', lo, hi, k1, h0, h2, by omega, fun e => by rw [k2]; exact h4 e, fun i hi' => ?_, h6, h7⟩
  rw [cellOf_putFrom]
  by_cases hc : off ≤ i ∧ i < off + vals.length
  · rw [if_pos hc, k3 (l.off + i) (by omega) (by omega) (by omega)]
    rw [show l.off + i - (l.off + off) = i - off from by omega]
    obtain ⟨x, hx⟩ : ∃ x, vals[i - off]? = some x := ⟨_, List.getElem?_eq_getElem (by omega)⟩
    obtain ⟨v, hv1, hv2⟩ := hv.get _ x hx
    rw [hx]
    exact ⟨v, hv1, by simpa using hv2⟩
  · rw [if_neg hc, k4 (l.off + i) (by omega)]
    exact h5 i hi'
theorem BR.can {ρ : Place} {l : Loc} {elem n : Nat} {cs : T AV} {row : Bool} {fz : Nat} {back : Bool} {w : World} (h : BR ρ l (.cells elem n cs row fz back) w)
    {off k : Nat} (hn : l.off + off + k ≤ l.ext) (hf : fz ≤ off) : ∀ j, j < k → (w.cell? ⟨l.blk, l.off + off + j, none⟩).isSome = true ∧ w.frozen? ⟨l.blk, l.off + off + j, none⟩ = false := by
  obtain ⟨arr, lo, hi, h1, h0, h2, h3, h4, h5, h6, h7⟩ := h
  intro j hj
  constructor
  · simp only [World.cell?, h1]
    rw [Array.getElem?_eq_getElem (by omega)]
    rfl
  · have := h6 (l.off + off + j) (by omega) (by omega)
    simp only [World.frozen?, h1]
    simpa using this
theorem Step.write {E : Env} {base : Nat} {ρ : Place} {M : Mem} {w : World} (hc : Cons E base ρ M w) {b : Nat} {elem n : Nat} {cs : T AV} {row : Bool} {fz : Nat} {back : Bool} {l : Loc}
    (hx : M.bl.get b = some (.cells elem n cs row fz back)) (hl : ρ b = some l) {off : Nat} {vals : List AV} {vs : List Value} (hv : VRs ρ vals vs) (hn : off + vals.length ≤ n) :
    Step E base ρ w M ρ (w.setCells l.blk (l.off + off) vs) ⟨M.next, M.bl.set b (.cells elem n (putFrom cs off vals) row fz back)⟩ := by
  obtain ⟨l', hl', hbr⟩ := hc.blk b _ hx
  rw [hl, Option.some.injEq] at hl'
  subst hl'
  exact Step.over hc hx hl (setCells_size _ _ _ _) (fun k hk => setCells_else _ _ _ _ k hk) (hbr.write hv hn) (World.os_setCells _ _ _ _) (setCells_tape _ _ _ _) (World.output_setCells _ _ _ _)
def storeA (P : Program) (M : Mem) (t : TypeId) (p v : AV) : Option Mem :=
  match p with
  | .ptr b off => match v.cells? with
    | some vals => match oneAll vals with
      | true => match P.info? t with
        | some i => match M.bl.get b with
          | some (.cells elem n cs row fz back) =>
            cond (Nat.beq vals.length i.size && Nat.ble (off + vals.length) n && Nat.ble fz off) (some ⟨M.next, M.bl.set b (.cells elem n (putFrom cs off vals) row fz back)⟩) none
          | _ => none
        | none => none
      | false => none
    | none => none
  | _ => none
theorem storeA_ok {E : Env} {base : Nat} {ρ : Place} {M M' : Mem} {w : World} (hc : Cons E base ρ M w) {t : TypeId} {p v : AV} {x y : Value} (hp : VR ρ p x) (hv : VR ρ v y)
    (h : storeA E.P M t p v = some M') : ∃ w', (Instr.storeAt t x y).run E.P w = .ok () w' ∧ Step E base ρ w M ρ w' M' := by
  unfold storeA at h
  split at h
  · rename_i b off
    split at h
    · rename_i vals hvals
      split at h
      · rename_i hone
        split at h
        · rename_i i hi
          split at h
          · rename_i elem n cs row fz back hb
            cases hq : (Nat.beq vals.length i.size && Nat.ble (off + vals.length) n && Nat.ble fz off) with
            | false => rw [hq] at h; simp at h
            | true =>
              rw [hq] at h
              simp only [cond_true, Option.some.injEq] at h
              simp only [Bool.and_eq_true, Nat.ble_eq] at hq
              obtain ⟨⟨q1, q2⟩, q3⟩ := hq
              have q1 : vals.length = i.size := Nat.eq_of_beq_eq_true q1
              subst h
              simp only [VR] at hp
              obtain ⟨l, hl, rfl⟩ := hp
              have hcs := hv.cells hvals
              have hlen := hcs.length
              obtain ⟨l', hl', hbr⟩ := hc.blk b _ hb
              rw [hl, Option.some.injEq] at hl'
              subst hl'
              have hext : l.off + n ≤ l.ext := by obtain ⟨_, _, _, _, _, h2, _⟩ := hbr; exact h2
              have hcan := hbr.can (off := off) (k := vals.length) (by omega) q3
              refine ⟨w.setCells l.blk (l.off + off) y.cells.toList, ?_, Step.write hc hb hl hcs q2⟩
              have hst := run_storeCells_cells (P := E.P) l.blk (l.off + off) y.cells.toList 0 w (fun j hj => (by simpa using (hcan j (by omega)).1)) (fun j hj => by simpa using (hcan j (by omega)).2) (hcs.one hone)
              simp only [Nat.add_zero] at hst
              have hsz : y.cells.size = i.size := by
                simp only [Array.length_toList] at hlen
                omega
              simp [Instr.storeAt, sureAddr, storeVar, run_sizeOf hi, hsz, hst]
          · cases h
        · cases h
      · cases h
    · cases h
  · cases h
def bytesA : List UInt8 → List AV
  | [] => []
  | b :: bs => .lit (.int .u8 b.toNat) :: bytesA bs
theorem bytesA_ok {ρ : Place} : ∀ (l : List UInt8), VRs ρ (bytesA l) (l.map fun b => Value.int .u8 b.toNat)
  | [] => by simp [bytesA, VRs]
  | b :: bs => by
    simp only [bytesA, List.map_cons, VRs]
    exact ⟨_, _, rfl, rfl, bytesA_ok bs⟩
def srcA (P : Program) (M : Mem) (tx : TypeId) (x : AV) (size : Nat) : Option (Nat × List AV) :=
  match P.underlying tx with
  | some (.slice _) => match x with
    | .lit (.slice none 0 _) => some (0, [])
    | .slice b off len _ _ => match readA M b off (len * size) with
      | some l => match oneAll l with
        | true => some (len, l)
        | false => none
      | none => none
    | _ => none
  | some .string => match x with
    | .lit (.string s) => match size with
      | 1 => some (s.size, bytesA s.data.toList)
      | _ => none
    | _ => none
  | _ => none
theorem srcA_ok {E : Env} {base : Nat} {ρ : Place} {M : Mem} {w : World} (hc : Cons E base ρ M w) {tx : TypeId} {x : AV} {y : Value} {size n : Nat} {l : List AV} (hx : VR ρ x y)
    (h : srcA E.P M tx x size = some (n, l)) : ∃ news, Src E.P size tx y n news w ∧ VRs ρ l news := by
  unfold srcA at h
  split at h
  · rename_i e hu
    split at h
    · rename_i c
      simp only [Option.some.injEq, Prod.mk.injEq] at h
      obtain ⟨rfl, rfl⟩ := h
      simp only [VR] at hx
      subst hx
      exact ⟨[], Src.ofNil w hu c, by simp [VRs]⟩
    · rename_i b off len cap esz
      split at h
      · rename_i q hq
        split at h
        · rename_i hone
          simp only [Option.some.injEq, Prod.mk.injEq] at h
          obtain ⟨rfl, rfl⟩ := h
          simp only [VR] at hx
          obtain ⟨lc, c, hlc, rfl, _⟩ := hx
          obtain ⟨l', xs, k1, k2, k3, k4⟩ := readA_ok hc hq
          rw [hlc, Option.some.injEq] at k1
          subst k1
          refine ⟨xs, Src.ofSlice w hu _ len c xs k2 (fun j u hj => ?_) (k3.one hone), k3⟩
          rw [addr_add]
          exact k4 j u hj
        · cases h
      · cases h
    · cases h
  · rename_i hu
    split at h
    · rename_i s
      split at h
      · simp only [Option.some.injEq, Prod.mk.injEq] at h
        obtain ⟨rfl, rfl⟩ := h
        simp only [VR] at hx
        subst hx
        exact ⟨_, Src.ofString w hu s, bytesA_ok _⟩
      · cases h
    · cases h
  · cases h
theorem zeroCells_size (z : Array Value) (n : Nat) : (Builtin.zeroCells z n).size = n * z.size := by simp [Builtin.zeroCells]
theorem Step.grow {E : Env} {base : Nat} {ρ : Place} {M : Mem} {w : World} (hc : Cons E base ρ M w) (hbase : base ≤ w.heap.size) {e : TypeId} {cells : List AV} {xs : List Value} {z : Array Value} {rest : Nat}
    (hx : VRs ρ cells xs) (back : Bool) (fz : Nat) :
    Step E base ρ w M (ρ.upd M.next ⟨w.heap.size, 0, xs.length + (Builtin.zeroCells z rest).size, undef⟩) (w.drew.alloc (.cells (xs.toArray ++ Builtin.zeroCells z rest) e))
      ⟨M.next + 1, M.bl.set M.next (.cells e cells.length (T.ofList cells) true fz back)⟩ := by
  have hlen := hx.length
  have hnone : ρ M.next = none := by
    cases hq : ρ M.next with
    | none => rfl
    | some l => have := hc.bound _ _ hq; omega
  refine Step.push hc hbase hnone (by omega) (by omega) (Nat.le_refl _) rfl (by simp) (fun k hk => ?_) ?_ rfl rfl rfl
  · simp only [World.alloc]
    rw [Array.getElem?_push_lt (by simpa using hk)]
    rw [Array.getElem?_eq_getElem hk]; rfl
  · refine ⟨xs.toArray ++ Builtin.zeroCells z rest, 0, 0, (by show (w.heap.push _)[w.heap.size]? = _; simp), rfl, by simp only []; omega, by simp, fun h => (by cases h), fun i hi => ?_, fun o _ _ => by omega, fun _ => by omega⟩
    have hi' : i < xs.length := by omega
    obtain ⟨a, ha⟩ : ∃ a, cells[i]? = some a := ⟨_, List.getElem?_eq_getElem hi⟩
    obtain ⟨v, hv, hr⟩ := hx.get i a ha
    refine ⟨v, ?_, ?_⟩
    · simp only [Nat.zero_add]
      rw [Array.getElem?_append_left (by simpa using hi')]
      simpa using hv
    · simp only [cellOf, T.get_ofList, ha]
      exact hr.mono (Place.le_upd hnone)
def big : Nat := 68719476736
def appendA (E : Env) (M : Mem) (t tx : TypeId) (s x : AV) : Option (AV × Mem) :=
  match E.P.underlying t with
  | some (.slice e) => match E.P.info? e with
    | some i => match i.zero with
      | some z => match srcA E.P M tx x i.size with
        | some (n, news) => match s with
          | .lit (.slice none 0 0) => match n with
            | 0 => some (s, M)
            | _ + 1 => cond (Nat.ble n big && Nat.ble i.bytes 1024 && Nat.beq z.cells.size i.size) (some (.slice M.next 0 n none i.size, ⟨M.next + 1, M.bl.set M.next (.cells e news.length (T.ofList news) true 0 false)⟩)) none
          | .slice b off len (some c) esz =>
            cond (Nat.ble (len + n) c)
              (match M.bl.get b with
               | some (.cells elem m cs row fz back) =>
                 cond (Nat.ble (off + len * i.size + news.length) m && Nat.ble fz (off + len * i.size))
                   (some (.slice b off (len + n) (some c) esz, ⟨M.next, M.bl.set b (.cells elem m (putFrom cs (off + len * i.size) news) row fz back)⟩)) none
               | _ => none)
              (match readA M b off (len * i.size) with
               | some olds => cond (Nat.ble (len + n) big && Nat.ble i.bytes 1024 && Nat.beq z.cells.size i.size)
                   (some (.slice M.next 0 (len + n) none i.size, ⟨M.next + 1, M.bl.set M.next (.cells e (olds ++ news).length (T.ofList (olds ++ news)) true 0 false)⟩)) none
               | none => none)
          | .slice b off len none esz => match n with
            | 0 => some (s, M)
            | _ + 1 => match M.bl.get b with
              | some (.cells elem _m _cs row fz back) => match readA M b off (len * i.size) with
                | some olds =>
                  cond (Nat.beq off 0 && Nat.beq esz i.size && Nat.beq elem e && row && Nat.ble fz (len * i.size) && Nat.ble (len + n) big && Nat.ble i.bytes 1024 && Nat.beq z.cells.size i.size)
                    (some (.slice M.next 0 (len + n) none i.size, ⟨M.next + 1, (M.bl.del b).set M.next (.cells e (olds ++ news).length (T.ofList (olds ++ news)) true fz back)⟩)) none
                | none => none
              | _ => none
          | _ => none
        | none => none
      | none => none
    | none => none
  | _ => none
theorem fits_small {need old bytes : Nat} (h : old < need) (h1 : need ≤ big) (h2 : bytes ≤ 1024) : Builtin.nextslicecap need old * bytes ≤ 281474976710656 := by
  refine growslice_fits h ?_
  have : need * bytes ≤ big * 1024 := Nat.mul_le_mul h1 h2
  unfold big at this
  omega
theorem appendA_ok {E : Env} {base : Nat} {ρ : Place} {M M' : Mem} {w : World} (hc : Cons E base ρ M w) (hbase : base ≤ w.heap.size) {t tx ty : TypeId} {s x v : AV} {u y : Value} (hs : VR ρ s u) (hx : VR ρ x y)
    (h : appendA E M t tx s x = some (v, M')) : ∃ z w' ρ', (Builtin.append_ #[t, tx] ty #[u, y]).run E.P w = .ok z w' ∧ VR ρ' v z ∧ Step E base ρ w M ρ' w' M' := by
  unfold appendA at h
  split at h
  · rename_i e hu
    split at h
    · rename_i i hi
      split at h
      · rename_i z hz
        split at h
        · rename_i n news hsrc
          obtain ⟨ns, hSrc, hns⟩ := srcA_ok hc hx hsrc
          have hnl := hns.length
          have hsl := hSrc.newsLen
          split at h
          · -- nil
            simp only [VR] at hs
            subst hs
            split at h
            · simp only [Option.some.injEq, Prod.mk.injEq] at h
              obtain ⟨rfl, rfl⟩ := h
              have : ns = [] := by simpa using hSrc.newsLen
              subst this
              exact ⟨_, w, ρ, run_append_nothing w t tx ty e i hu hi none 0 0 (Nat.le_refl _) y hSrc, by simp [VR], Step.refl hc⟩
            · rename_i k
              cases hq : (Nat.ble (k + 1) big && Nat.ble i.bytes 1024 && Nat.beq z.cells.size i.size) with
              | false => rw [hq] at h; simp at h
              | true =>
                rw [hq] at h
                simp only [cond_true, Option.some.injEq, Prod.mk.injEq] at h
                obtain ⟨rfl, rfl⟩ := h
                simp only [Bool.and_eq_true, Nat.ble_eq] at hq
                obtain ⟨⟨q1, q2⟩, q3⟩ := hq
                have q3 : z.cells.size = i.size := Nat.eq_of_beq_eq_true q3
                have hrun := run_append_grow_src w t tx ty e i z hu hi hz none 0 0 [] (run_firstCells_none (P := E.P) w.drew i.size 0 0 0) y (k + 1) ns hSrc (by omega) (by unfold big at q1; omega)
                  (by rw [Nat.zero_add]; exact fits_small (by omega) q1 q2)
                simp only [List.nil_append, Nat.zero_add] at hrun
                have hcap := grownCap_ge w (k + 1) 0 e
                refine ⟨_, _, _, hrun, ?_, Step.grow hc hbase hns false 0⟩
                simp only [VR]
                refine ⟨_, grownCap w (k + 1) 0 e, Place.upd_same _ _ _, by simp, hcap, ?_⟩
                rw [zeroCells_size, q3, hsl]
                simp only [Nat.zero_add]
                rw [← Nat.add_mul]
                exact Nat.mul_le_mul_right _ (by omega)
          · -- a slice of a known capacity
            rename_i b off len c esz
            simp only [VR] at hs
            obtain ⟨l, c', hl, rfl, rfl⟩ := hs
            cases hfit : Nat.ble (len + n) c' with
            | true =>
              rw [hfit] at h
              simp only [cond_true] at h
              have hfit : len + n ≤ c' := by simpa [Nat.ble_eq] using hfit
              split at h
              · rename_i elem m cs row fz back hb
                cases hq : (Nat.ble (off + len * i.size + news.length) m && Nat.ble fz (off + len * i.size)) with
                | false => rw [hq] at h; simp at h
                | true =>
                  rw [hq] at h
                  simp only [cond_true, Option.some.injEq, Prod.mk.injEq] at h
                  obtain ⟨rfl, rfl⟩ := h
                  simp only [Bool.and_eq_true, Nat.ble_eq] at hq
                  obtain ⟨l', hl', hbr⟩ := hc.blk b _ hb
                  rw [hl, Option.some.injEq] at hl'
                  subst hl'
                  have hext : l.off + m ≤ l.ext := by obtain ⟨_, _, _, _, _, h2, _⟩ := hbr; exact h2
                  have hcan := hbr.can (off := off + len * i.size) (k := news.length) (by omega) hq.2
                  have hrun := run_append_room_src w t tx ty e i hu hi l.blk (l.off + off) len c' y n ns hSrc hfit
                    (fun j hj => by rw [Nat.add_assoc l.off]; exact (hcan j (by omega)).1) (fun j hj => by rw [Nat.add_assoc l.off]; exact (hcan j (by omega)).2)
                  refine ⟨_, _, ρ, hrun, ?_, ?_⟩
                  · simp only [VR]
                    exact ⟨l, c', hl, rfl, rfl⟩
                  · rw [Nat.add_assoc l.off]
                    exact Step.write hc hb hl hns hq.1
              · cases h
            | false =>
              rw [hfit] at h
              simp only [cond_false] at h
              have hfit : c' < len + n := by
                rcases Nat.lt_or_ge c' (len + n) with k | k
                · exact k
                · have : Nat.ble (len + n) c' = true := by simpa [Nat.ble_eq] using k
                  rw [this] at hfit; cases hfit
              split at h
              · rename_i olds holds
                cases hq : (Nat.ble (len + n) big && Nat.ble i.bytes 1024 && Nat.beq z.cells.size i.size) with
                | false => rw [hq] at h; simp at h
                | true =>
                  rw [hq] at h
                  simp only [cond_true, Option.some.injEq, Prod.mk.injEq] at h
                  obtain ⟨rfl, rfl⟩ := h
                  simp only [Bool.and_eq_true, Nat.ble_eq] at hq
                  obtain ⟨⟨q1, q2⟩, q3⟩ := hq
                  have q3 : z.cells.size = i.size := Nat.eq_of_beq_eq_true q3
                  obtain ⟨l', xs, k1, k2, k3, k4⟩ := readA_ok hc holds
                  rw [hl, Option.some.injEq] at k1
                  subst k1
                  have hold : (Builtin.firstCells i.size len (.slice (some ⟨l.blk, l.off + off, none⟩) len c')).run E.P w.drew = .ok xs.toArray w.drew :=
                    run_firstCells_some w.drew i.size len _ len c' xs k2 (fun j u hj => by rw [addr_add]; exact k4 j u hj)
                  have hrun := run_append_grow_src w t tx ty e i z hu hi hz _ len c' xs hold y n ns hSrc hfit (by unfold big at q1; omega) (fits_small hfit q1 q2)
                  have hcap := grownCap_ge w (len + n) c' e
                  refine ⟨_, _, _, hrun, ?_, Step.grow hc hbase (k3.append hns) false 0⟩
                  simp only [VR]
                  refine ⟨_, grownCap w (len + n) c' e, Place.upd_same _ _ _, by simp, hcap, ?_⟩
                  rw [zeroCells_size, q3, List.length_append, hsl, k2, ← Nat.add_mul, ← Nat.add_mul]
                  simp only [Nat.zero_add]
                  exact Nat.mul_le_mul_right _ (by omega)
              · cases h
          · -- a slice of an unknown capacity
            rename_i b off len esz
            split at h
            · simp only [Option.some.injEq, Prod.mk.injEq] at h
              obtain ⟨rfl, rfl⟩ := h
              have hs0 := hs
              simp only [VR] at hs
              obtain ⟨l, c, hl, rfl, hcap⟩ := hs
              have : ns = [] := by simpa using hSrc.newsLen
              subst this
              exact ⟨_, w, ρ, run_append_nothing w t tx ty e i hu hi _ len c hcap.1 y hSrc, hs0, Step.refl hc⟩
            · rename_i k
              simp only [VR] at hs
              obtain ⟨l, c, hl, rfl, hcap⟩ := hs
              split at h
              · rename_i elem m cs row fz back hb
                split at h
                · rename_i olds holds
                  cases hq : (Nat.beq off 0 && Nat.beq esz i.size && Nat.beq elem e && row && Nat.ble fz (len * i.size) && Nat.ble (len + (k + 1)) big && Nat.ble i.bytes 1024 && Nat.beq z.cells.size i.size) with
                  | false => rw [hq] at h; simp at h
                  | true =>
                    rw [hq] at h
                    simp only [cond_true, Option.some.injEq, Prod.mk.injEq] at h
                    obtain ⟨rfl, rfl⟩ := h
                    simp only [Bool.and_eq_true, Nat.ble_eq] at hq
                    obtain ⟨⟨⟨⟨⟨⟨⟨q0, q1⟩, q2⟩, q3⟩, q4⟩, q5⟩, q6⟩, q7⟩ := hq
                    have q0 : off = 0 := Nat.eq_of_beq_eq_true q0
                    have q1 : esz = i.size := Nat.eq_of_beq_eq_true q1
                    have q2 : elem = e := Nat.eq_of_beq_eq_true q2
                    have q7 : z.cells.size = i.size := Nat.eq_of_beq_eq_true q7
                    subst q0 q1 q2
                    obtain ⟨l', xs, k1, k2, k3, k4⟩ := readA_ok hc holds
                    rw [hl, Option.some.injEq] at k1
                    subst k1
                    obtain ⟨l', hl', hbr⟩ := hc.blk b _ hb
                    rw [hl, Option.some.injEq] at hl'
                    subst hl'
                    have hnone : ρ M.next = none := by
                      cases hq : ρ M.next with
                      | none => rfl
                      | some l => have := hc.bound _ _ hq; omega
                    have hall := k3.append hns
                    have hlo := k3.length
                    have hsl : ns.length = (k + 1) * i.size := hsl
                    by_cases hroom : len + (k + 1) ≤ c
                    · -- there is room
                      have hmul : (len + (k + 1)) * i.size ≤ c * i.size := Nat.mul_le_mul_right _ hroom
                      rw [Nat.add_mul] at hmul
                      have hcan := hbr.can (off := len * i.size) (k := news.length) (by omega) q4
                      have hrun := run_append_room_src w t tx ty elem i hu hi l.blk (l.off + 0) len c y (k + 1) ns hSrc hroom
                        (fun j hj => by rw [Nat.add_zero]; exact (hcan j (by omega)).1) (fun j hj => by rw [Nat.add_zero]; exact (hcan j (by omega)).2)
                      refine ⟨_, _, ρ.upd M.next l, hrun, ?_, ?_⟩
                      · simp only [VR]
                        exact ⟨l, c, Place.upd_same _ _ _, rfl, hroom, hcap.2⟩
                      · obtain ⟨arr, lo, hi', h1, h0, h2, h3, h4, h5, h6, h7⟩ := hbr
                        obtain ⟨arr', a1, a2, a3, a4⟩ := setCells_here ns (l.off + 0 + len * i.size) w l.blk arr elem (lo, hi') h1
                        refine Step.turn hc hb hl hnone (Nat.le_refl _) (by omega) rfl (setCells_size _ _ _ _) (fun q hq => setCells_else _ _ _ _ q hq) ?_ (World.os_setCells _ _ _ _) (setCells_tape _ _ _ _) (World.output_setCells _ _ _ _)
                        refine ⟨arr', lo, hi', a1, h0, ?_, by omega, (fun e => by cases e), fun j hj => ?_, h6, h7⟩
                        · simp only [List.length_append]
                          omega
                        · have hjl : j < (xs ++ ns).length := by rw [← hall.length]; exact hj
                          obtain ⟨a, ha⟩ : ∃ a, (olds ++ news)[j]? = some a := ⟨_, List.getElem?_eq_getElem hj⟩
                          obtain ⟨v, hv, hr⟩ := hall.get j a ha
                          refine ⟨v, ?_, ?_⟩
                          · by_cases hjo : j < xs.length
                            · rw [List.getElem?_append_left hjo] at hv
                              rw [a4 (l.off + j) (by omega)]
                              have := k4 j v hv
                              simp only [World.cell?, h1] at this
                              simpa using this
                            · rw [List.getElem?_append_right (by omega)] at hv
                              rw [List.length_append] at hjl
                              rw [a3 (l.off + j) (by omega) (by omega) (by omega)]
                              rw [show l.off + j - (l.off + 0 + len * i.size) = j - xs.length from by omega]
                              exact hv
                          · simp only [cellOf, T.get_ofList, ha]
                            exact hr.mono (Place.le_upd hnone)
                    · have hg : c < len + (k + 1) := by omega
                      have hold : (Builtin.firstCells i.size len (.slice (some ⟨l.blk, l.off + 0, none⟩) len c)).run E.P w.drew = .ok xs.toArray w.drew :=
                        run_firstCells_some w.drew i.size len _ len c xs k2 (fun j u hj => by rw [addr_add]; exact k4 j u hj)
                      have hrun := run_append_grow_src w t tx ty elem i z hu hi hz _ len c xs hold y (k + 1) ns hSrc hg (by unfold big at q5; omega) (fits_small hg q5 q6)
                      have hcap' := grownCap_ge w (len + (k + 1)) c elem
                      have hst := Step.grow (e := elem) (z := z.cells) (rest := grownCap w (len + (k + 1)) c elem - (len + (k + 1))) hc hbase hall back fz
                      refine ⟨_, _, ρ.upd M.next ⟨w.heap.size, 0, (xs ++ ns).length + (Builtin.zeroCells z.cells (grownCap w (len + (k + 1)) c elem - (len + (k + 1)))).size, undef⟩, hrun, ?_, ?_⟩
                      · simp only [VR]
                        refine ⟨_, grownCap w (len + (k + 1)) c elem, Place.upd_same _ _ _, by simp, hcap', ?_⟩
                        rw [zeroCells_size, q7, List.length_append, hsl, k2, ← Nat.add_mul, ← Nat.add_mul]
                        simp only [Nat.zero_add]
                        exact Nat.mul_le_mul_right _ (by omega)
                      · -- the old name is dropped
                        exact {
                          ext := hst.ext
                          cons := {
                            blk := fun d q hq => by
                              simp only [T.get_set, T.get_del] at hq
                              refine hst.cons.blk d q ?_
                              simp only [T.get_set]
                              split at hq
                              · rename_i e; rw [if_pos e]; exact hq
                              · rename_i e; rw [if_neg e]
                                split at hq
                                · cases hq
                                · exact hq
                            inj := fun d d' q q' m m' hq hq' => by
                              simp only [T.get_set, T.get_del] at hq hq'
                              refine hst.cons.inj d d' q q' m m' ?_ ?_
                              · simp only [T.get_set]
                                split at hq
                                · rename_i e; rw [if_pos e]; exact hq
                                · rename_i e; rw [if_neg e]
                                  split at hq
                                  · cases hq
                                  · exact hq
                              · simp only [T.get_set]
                                split at hq'
                                · rename_i e; rw [if_pos e]; exact hq'
                                · rename_i e; rw [if_neg e]
                                  split at hq'
                                  · cases hq'
                                  · exact hq'
                            bound := hst.cons.bound
                            low := hst.cons.low
                            glob := hst.cons.glob
                            sym := hst.cons.sym }
                          frame := hst.frame
                          size := hst.size
                          img := fun d q m hq hm => by
                            simp only [T.get_set, T.get_del] at hq
                            refine hst.img d q m ?_ hm
                            simp only [T.get_set]
                            split at hq
                            · rename_i e; rw [if_pos e]; exact hq
                            · rename_i e; rw [if_neg e]
                              split at hq
                              · cases hq
                              · exact hq
                          fresh := hst.fresh
                          next := hst.next
                          os := hst.os
                          tape := hst.tape
                          output := hst.output }
                · cases h
              · cases h
          · cases h
        · cases h
      · cases h
    · cases h
  · cases h
open Go.Instr
structure MadeR (P : Program) (ρ : Place) (blk : AB) (f : Nat → AV) (w : World) (r : Result Next) : Prop where
  made : ∃ x w' ext, r = .ok (.value x) w' ∧ w'.heap.size = w.heap.size + 1 ∧ (∀ k, k < w.heap.size → w'.heap[k]? = w.heap[k]?) ∧ w'.os = w.os ∧ w'.tape = w.tape ∧ w'.output = w.output ∧
    ∀ ρ' id, ρ.le ρ' → ρ' id = some ⟨w.heap.size, 0, ext, undef⟩ → BR ρ' ⟨w.heap.size, 0, ext, undef⟩ blk w' ∧ VR ρ' (f id) x
theorem alloc_old (w : World) (o : Obj) : (w.alloc o).heap.size = w.heap.size + 1 ∧ ∀ k, k < w.heap.size → (w.alloc o).heap[k]? = w.heap[k]? :=
  ⟨by simp, fun k hk => RowKit.Below.heap_alloc w o k hk⟩
theorem alloc_new (w : World) (o : Obj) : (w.alloc o).heap[w.heap.size]? = some o := by
  show (w.heap.push o)[w.heap.size]? = some o
  simp
theorem rowBR {ρ : Place} {cells : List AV} {arr : Array Value} (h : VRs ρ cells arr.toList) (e : TypeId) (w : World) {n : Nat} (hn : cells.length = n) :
    BR ρ ⟨w.heap.size, 0, n, undef⟩ (.cells e n (T.ofList cells) false 0 false) (w.alloc (.cells arr e)) := by
  have hlen := h.length
  simp only [Array.length_toList] at hlen
  refine ⟨arr, 0, 0, alloc_new w _, rfl, by simp, by simp only []; omega, fun _ => by omega, fun i hi => ?_, fun o _ _ => by omega, fun _ => by omega⟩
  obtain ⟨a, ha⟩ : ∃ a, cells[i]? = some a := ⟨_, List.getElem?_eq_getElem (by omega)⟩
  obtain ⟨v, hv, hr⟩ := h.get i a ha
  exact ⟨v, by simpa using hv, by simpa only [cellOf, T.get_ofList, ha] using hr⟩
def allocA (P : Program) (t : TypeId) : Option (AB × (Nat → AV)) :=
  match P.info? t with
  | some i => match i.zero with
    | some z => some (.cells t z.cells.size (T.ofList (z.cells.toList.map .lit)) false 0 false, fun id => .ptr id 0)
    | none => none
  | none => none
theorem ptrVR {ρ : Place} {id : Nat} {l : Loc} (h : ρ id = some l) (h0 : l.off = 0) : VR ρ (.ptr id 0) (.pointer (some ⟨l.blk, 0, none⟩)) := by
  simp only [VR]
  exact ⟨l, h, by rw [h0]⟩
theorem allocA_ok {P : Program} {ρ : Place} {t : TypeId} {blk : AB} {f : Nat → AV} (h : allocA P t = some (blk, f)) (w : World) :
    MadeR P ρ blk f w ((do pure (.value (← Instr.alloc t true (.tuple #[]))) : Sem Next).run P w) := by
  unfold allocA at h
  split at h
  · rename_i i hi
    split at h
    · rename_i z hz
      simp only [Option.some.injEq, Prod.mk.injEq] at h
      obtain ⟨rfl, rfl⟩ := h
      refine ⟨.pointer (some ⟨w.heap.size, 0, none⟩), w.alloc (.cells z.cells t), z.cells.size, by simp [Instr.alloc, run_zeroValue hi hz, newVar, newRow], (alloc_old w _).1, (alloc_old w _).2, rfl, rfl, rfl, fun ρ' id _ hid => ⟨?_, ptrVR hid rfl⟩⟩
      exact rowBR (VRs.lits _) t w (by simp)
    · cases h
  · cases h
def boxA (t : TypeId) (v : AV) : Option (AB × (Nat → AV)) :=
  match v.cells? with
  | some l => some (.cells t l.length (T.ofList l) false 0 false, fun id => .ptr id 0)
  | none => none
theorem boxA_ok {P : Program} {ρ : Place} {t : TypeId} {v : AV} {x : Value} {blk : AB} {f : Nat → AV} (hv : VR ρ v x) (h : boxA t v = some (blk, f)) (w : World) :
    MadeR P ρ blk f w ((do pure (.value (← Instr.box t x)) : Sem Next).run P w) := by
  unfold boxA at h
  split at h
  · rename_i l hl
    simp only [Option.some.injEq, Prod.mk.injEq] at h
    obtain ⟨rfl, rfl⟩ := h
    have hc := hv.cells hl
    refine ⟨.pointer (some ⟨w.heap.size, 0, none⟩), w.alloc (.cells x.cells t), l.length, by simp [Instr.box, newVar, newRow], (alloc_old w _).1, (alloc_old w _).2, rfl, rfl, rfl, fun ρ' id hle hid => ⟨?_, ptrVR hid rfl⟩⟩
    exact rowBR (hc.mono hle) t w rfl
  · cases h
def zerosA (z : Array Value) (n : Nat) : List AV := (List.range n).map fun i => .lit z[i % z.size]!
theorem zerosA_ok {ρ : Place} (z : Array Value) (n : Nat) : VRs ρ (zerosA z n) ((Array.range n).map (z[· % z.size]!)).toList := by
  refine VRs.of_get (by simp [zerosA]) fun i x v hx hv => ?_
  by_cases hi : i < n
  · simp [zerosA, hi] at hx hv
    subst hx hv
    simp [VR]
  · simp [zerosA, hi] at hx
def buildSliceA (P : Program) (t : TypeId) (n : Nat) (parts : List (Nat × AV)) : Option (AB × (Nat → AV)) :=
  match P.underlying t with
  | some (.slice e) => match P.info? e with
    | some i => match i.zero with
      | some z => cond (Nat.ble (n * i.size) 16777216)
        (match fillA (fun k => some (k * i.size, i.size)) (zerosA z.cells (n * i.size)) parts with
         | some cs => some (.cells e cs.length (T.ofList cs) false 0 false, fun id => .slice id 0 n (some n) i.size)
         | none => none) none
      | none => none
    | none => none
  | _ => none
theorem sliceVR {ρ : Place} {id n c esz : Nat} {l : Loc} (h : ρ id = some l) (h0 : l.off = 0) : VR ρ (.slice id 0 n (some c) esz) (.slice (some ⟨l.blk, 0, none⟩) n c) := by
  simp only [VR]
  exact ⟨l, c, h, by rw [h0], rfl⟩
theorem buildSliceA_ok {P : Program} {ρ : Place} {t : TypeId} {n : Nat} {parts : List (Nat × AV)} {vals : Array (Nat × Value)} {blk : AB} {f : Nat → AV}
    (h1 : parts.map (·.1) = vals.toList.map (·.1)) (h2 : VRs ρ (parts.map (·.2)) (vals.toList.map (·.2))) (h : buildSliceA P t n parts = some (blk, f)) (w : World) :
    MadeR P ρ blk f w ((do pure (.value (← Instr.buildSlice t n vals)) : Sem Next).run P w) := by
  unfold buildSliceA at h
  split at h
  · rename_i e hu
    split at h
    · rename_i i hi
      split at h
      · rename_i z hz
        cases hb : Nat.ble (n * i.size) 16777216 with
        | false => rw [hb] at h; simp at h
        | true =>
          rw [hb] at h
          simp only [cond_true] at h
          have hb' : n * i.size ≤ 16777216 := by simpa [Nat.ble_eq] using hb
          split at h
          · rename_i cs hcs
            simp only [Option.some.injEq, Prod.mk.injEq] at h
            obtain ⟨rfl, rfl⟩ := h
            have hbig : ¬ (n * i.size > 2 ^ 24) := by omega
            have key : ∃ ys, Instr.fill (fun k => some (k * i.size, i.size)) ((Array.range (n * i.size)).map ((if n * i.size = 0 then #[] else z.cells)[· % (if n * i.size = 0 then #[] else z.cells).size]!)) vals.toList = some ys ∧ VRs ρ cs ys.toList := by
              by_cases h0 : n * i.size = 0
              · refine fillA_ok parts vals.toList (zerosA z.cells (n * i.size)) _ cs ?_ h1 h2 hcs
                rw [h0]
                simp [zerosA, VRs]
              · simp only [h0, if_false]
                exact fillA_ok parts vals.toList _ _ cs (zerosA_ok _ _) h1 h2 hcs
            obtain ⟨ys, hy, hyr⟩ := key
            refine ⟨.slice (some ⟨w.heap.size, 0, none⟩) n n, w.alloc (.cells ys e), cs.length, ?_, (alloc_old w _).1, (alloc_old w _).2, rfl, rfl, rfl, fun ρ' id hle hid => ⟨rowBR (hyr.mono hle) e w rfl, sliceVR hid rfl⟩⟩
            by_cases h0 : n * i.size = 0
            · simp only [h0, if_true] at hy
              have hbig0 : ¬ ((0 : Nat) > 2 ^ 24) := by omega
              simp only [Instr.buildSlice, Sem.run_bind, run_underlying hu, Result.andThen_ok, run_sizeOf hi, h0, hbig0, if_false, if_true, Sem.run_pure, hy, newRow, newObj, Sem.run]
              rfl
            · simp only [h0, if_false] at hy
              simp only [Instr.buildSlice, Sem.run_bind, run_underlying hu, Result.andThen_ok, run_sizeOf hi, hbig, h0, if_false, Sem.run_pure, run_zeroValue hi hz, hy, newRow, newObj, Sem.run]
              rfl
          · cases h
      · cases h
    · cases h
  · cases h
def natOf : AV → Option Nat
  | .lit (.int .i64 (.ofNat n)) => some n
  | _ => none
def makeSliceA (P : Program) (t : TypeId) (len cap : AV) : Option (AB × (Nat → AV)) :=
  match P.underlying t with
  | some (.slice e) => match P.info? e with
    | some i => match i.zero with
      | some z => match natOf len with
        | some l => match natOf cap with
          | some c => cond (Nat.ble l c && Nat.ble c 1073741824 && Nat.ble i.bytes 1024)
            (some (.cells e (zerosA z.cells (c * i.size)).length (T.ofList (zerosA z.cells (c * i.size))) false 0 false, fun id => .slice id 0 l (some c) i.size)) none
          | none => none
        | none => none
      | none => none
    | none => none
  | _ => none
theorem natOf_ok {ρ : Place} {a : AV} {n : Nat} {v : Value} (hv : VR ρ a v) (h : natOf a = some n) : v = .int .i64 n := by
  unfold natOf at h
  split at h
  · simp only [Option.some.injEq] at h
    subst h
    simpa [VR] using hv
  · cases h
theorem wrap_small {n : Nat} (h : n ≤ 1073741824) : IntKind.i64.wrap (n : Int) = n := by
  exact IntWalk.i64_in _ (by omega)
theorem makeSliceA_ok {P : Program} {ρ : Place} {t : TypeId} {len cap : AV} {x y : Value} {blk : AB} {f : Nat → AV} (hx : VR ρ len x) (hy : VR ρ cap y) (h : makeSliceA P t len cap = some (blk, f)) (w : World) :
    MadeR P ρ blk f w ((do pure (.value (← Instr.makeSlice t x y)) : Sem Next).run P w) := by
  unfold makeSliceA at h
  split at h
  · rename_i e hu
    split at h
    · rename_i i hi
      split at h
      · rename_i z hz
        split at h
        · rename_i l hl
          split at h
          · rename_i c hc
            cases hb : (Nat.ble l c && Nat.ble c 1073741824 && Nat.ble i.bytes 1024) with
            | false => rw [hb] at h; simp at h
            | true =>
              rw [hb] at h
              simp only [cond_true, Option.some.injEq, Prod.mk.injEq] at h
              obtain ⟨rfl, rfl⟩ := h
              simp only [Bool.and_eq_true, Nat.ble_eq] at hb
              obtain ⟨⟨b1, b2⟩, b3⟩ := hb
              have ex := natOf_ok hx hl
              have ey := natOf_ok hy hc
              subst ex ey
              have w1 := wrap_small (n := l) (by omega)
              have w2 := wrap_small (n := c) (by omega)
              have hm : (i.bytes : Int) * (c : Int) ≤ 1099511627776 := by
                have : i.bytes * c ≤ 1024 * 1073741824 := Nat.mul_le_mul b3 b2
                omega
              have hno : (decide ((c : Int) < 0) || decide ((i.bytes : Int) * (c : Int) > 2 ^ 48) || decide ((l : Int) < 0) || decide ((l : Int) > (c : Int))) = false := by
                have e1 : ¬ ((c : Int) < 0) := by omega
                have e2 : ¬ ((i.bytes : Int) * (c : Int) > 2 ^ 48) := by omega
                have e3 : ¬ ((l : Int) < 0) := by omega
                have e4 : ¬ ((l : Int) > (c : Int)) := by omega
                simp [e1, e3, e4]
                omega
              have hroom : ¬ (c * i.bytes > roomBytes) := by
                have : c * i.bytes ≤ 1073741824 * 1024 := Nat.mul_le_mul b2 b3
                unfold roomBytes
                omega
              refine ⟨.slice (some ⟨w.heap.size, 0, none⟩) l c, w.alloc (.cells ((Array.range (c * i.size)).map ((if c * i.size = 0 then #[] else z.cells)[· % (if c * i.size = 0 then #[] else z.cells).size]!)) e), (zerosA z.cells (c * i.size)).length, ?_, (alloc_old w _).1, (alloc_old w _).2, rfl, rfl, rfl, fun ρ' id hle hid => ⟨?_, sliceVR hid rfl⟩⟩
              · have hno' := hno
                simp only [Instr.makeSlice, Sem.run_bind, run_underlying hu, Result.andThen_ok, asInt, asIntOf, Sem.run_pure, run_typeInfo' hi, w1, w2]
                rw [if_neg (by simpa using hno)]
                simp only [Sem.run_bind, Sem.run_pure, Result.andThen_ok, askRoom, Int.toNat_natCast, if_neg hroom, run_sizeOf hi]
                by_cases h0 : c * i.size = 0
                · simp [h0, newRow]
                · simp [h0, newRow, run_zeroValue hi hz]
              · refine rowBR ?_ e w rfl
                by_cases h0 : c * i.size = 0
                · rw [h0]; simp [zerosA, VRs]
                · simp only [h0, if_false]
                  exact zerosA_ok _ _
          · cases h
        · cases h
      · cases h
    · cases h
  · cases h
def makeMapA (P : Program) (t : TypeId) (reserve : Option AV) : Option (AB × (Nat → AV)) :=
  match reserve with
  | none => some (.map [] 0, fun id => .mapp id)
  | some (.lit (.int _ _)) => match P.underlying t with
    | some (.map _ _) => some (.map [] 0, fun id => .mapp id)
    | _ => none
  | _ => none
theorem mapBR (ρ : Place) (w : World) : BR ρ ⟨w.heap.size, 0, 0, undef⟩ (.map [] 0) (w.alloc (.map #[] 0)) := ⟨rfl, #[], alloc_new w _, by simp [ER]⟩
theorem makeMapA_ok {P : Program} {ρ : Place} {t : TypeId} {r : Option AV} {x : Option Value} {blk : AB} {f : Nat → AV}
    (hr : match r, x with | none, none => True | some a, some v => VR ρ a v | _, _ => False) (h : makeMapA P t r = some (blk, f)) (w : World) :
    MadeR P ρ blk f w ((do pure (.value (← Instr.makeMap t x)) : Sem Next).run P w) := by
  have fin : ∀ ρ' : Place, ∀ id : Nat, ρ' id = some ⟨w.heap.size, 0, 0, undef⟩ → BR ρ' ⟨w.heap.size, 0, 0, undef⟩ (.map [] 0) (w.alloc (.map #[] 0)) ∧ VR ρ' (.mapp id) (.map (some w.heap.size)) := fun ρ' id hid =>
    ⟨mapBR ρ' w, by simp only [VR]; exact ⟨_, hid, rfl⟩⟩
  unfold makeMapA at h
  split at h
  · simp only [Option.some.injEq, Prod.mk.injEq] at h
    obtain ⟨rfl, rfl⟩ := h
    cases x with
    | some v => exact hr.elim
    | none => exact ⟨.map (some w.heap.size), w.alloc (.map #[] 0), 0, by simp [Instr.makeMap], (alloc_old w _).1, (alloc_old w _).2, rfl, rfl, rfl, fun ρ' id _ hid => fin ρ' id hid⟩
  · rename_i k n
    split at h
    · rename_i a b hu
      simp only [Option.some.injEq, Prod.mk.injEq] at h
      obtain ⟨rfl, rfl⟩ := h
      cases x with
      | none => exact hr.elim
      | some v =>
        simp only [VR] at hr
        subst hr
        exact ⟨.map (some w.heap.size), w.alloc (.map #[] 0), 0, by simp [Instr.makeMap, run_underlying hu, asInt, asIntOf], (alloc_old w _).1, (alloc_old w _).2, rfl, rfl, rfl, fun ρ' id _ hid => fin ρ' id hid⟩
    · cases h
  · cases h
def rangeA (P : Program) (t : TypeId) (x : AV) : Option (AB × (Nat → AV)) :=
  match P.underlying t with
  | some .string => match x with
    | .lit (.string s) => some (.siter s 0, fun id => .ptr id 0)
    | _ => none
  | _ => none
theorem rangeA_ok {P : Program} {ρ : Place} {t : TypeId} {x : AV} {y : Value} {blk : AB} {f : Nat → AV} (hx : VR ρ x y) (h : rangeA P t x = some (blk, f)) (w : World) :
    MadeR P ρ blk f w ((do pure (.value (← Instr.range t y)) : Sem Next).run P w) := by
  unfold rangeA at h
  split at h
  · rename_i hu
    split at h
    · rename_i s
      simp only [Option.some.injEq, Prod.mk.injEq] at h
      obtain ⟨rfl, rfl⟩ := h
      simp only [VR] at hx
      subst hx
      exact ⟨.pointer (some ⟨w.heap.size, 0, none⟩), w.alloc (.stringIter s 0), 0, by simp [Instr.range, run_underlying hu], (alloc_old w _).1, (alloc_old w _).2, rfl, rfl, rfl, fun ρ' id _ hid => ⟨⟨rfl, alloc_new w _⟩, ptrVR hid rfl⟩⟩
    · cases h
  · cases h
def bytesRowA (e : TypeId) (s : List UInt8) : AB × (Nat → AV) :=
  (.cells e s.length (T.ofList (bytesA s)) true 0 true, fun id => .slice id 0 s.length none 1)
theorem freeze_here {w : World} {b o : Nat} {arr : Array Value} {e : TypeId} (h : w.heap[b]? = some (.cells arr e (0, 0))) {n : Nat} (hn : n ≠ 0) :
    (w.freeze ⟨b, o, none⟩ n).heap[b]? = some (.cells arr e (o, o + n)) := by
  have hlt : b < w.heap.size := by
    rcases Nat.lt_or_ge b w.heap.size with k | k
    · exact k
    · rw [Array.getElem?_eq_none k] at h; cases h
  simp only [World.freeze, hn, if_false]
  rw [Array.getElem?_modify]
  simp [h]
theorem freeze_else {w : World} {a : Addr} {n k : Nat} (h : k ≠ a.block) : (w.freeze a n).heap[k]? = w.heap[k]? := by
  unfold World.freeze
  split
  · rfl
  · rw [Array.getElem?_modify, if_neg (fun e => h e.symm)]
theorem freeze_size (w : World) (a : Addr) (n : Nat) : (w.freeze a n).heap.size = w.heap.size := by
  unfold World.freeze
  split
  · rfl
  · simp
theorem freeze_rest (w : World) (a : Addr) (n : Nat) : (w.freeze a n).os = w.os ∧ (w.freeze a n).tape = w.tape ∧ (w.freeze a n).output = w.output := by
  unfold World.freeze
  split <;> exact ⟨rfl, rfl, rfl⟩
theorem run_choose_cap {P : Program} (need old : Nat) (e : TypeId) (w : World) : (choose (.appendCap need old e)).run P w = .ok (grownCap w need old e) w.drew := by
  simp [choose, Sem.run, Question.forced, grownCap]
theorem run_newRow {P : Program} (e : TypeId) (c : Array Value) (w : World) : (newRow e c).run P w = .ok ⟨w.heap.size, 0, none⟩ (w.alloc (.cells c e)) := rfl
theorem run_markStringish {P : Program} {a : Addr} {w : World} {e : TypeId} {n : Nat} (h : w.shape? a.block = some (e, n)) :
    (markStringish a).run P w = .ok () (w.freeze { block := a.block, off := n } 1) := by
  simp [markStringish, h, freeze, Sem.run]
theorem bytesA_get : ∀ (l : List UInt8) (i : Nat), (bytesA l)[i]? = (l[i]?).map fun b => AV.lit (.int .u8 b.toNat)
  | [], i => by simp [bytesA]
  | b :: bs, 0 => by simp [bytesA]
  | b :: bs, i + 1 => by simpa [bytesA] using bytesA_get bs i
def bytesArr (s : ByteArray) (cap : Nat) : Array Value := (s.data.map fun b => Value.int .u8 b.toNat) ++ Array.replicate (cap - s.size) (.int .u8 0)
theorem bytesArr_size (s : ByteArray) (cap : Nat) (h : s.size ≤ cap) : (bytesArr s cap).size = cap := by
  simp only [bytesArr, Array.size_append, Array.size_map, Array.size_replicate]
  have : s.data.size = s.size := rfl
  omega
theorem stringBytes_ok {P : Program} {ρ : Place} {e : TypeId} (s : ByteArray) (w : World) :
    MadeR P ρ (bytesRowA e s.data.toList).1 (bytesRowA e s.data.toList).2 w ((do pure (.value (← Conv.stringToBytes e s)) : Sem Next).run P w) := by
  have hsz : s.data.toList.length = s.size := by rw [Array.length_toList]; rfl
  have hcap : s.size ≤ grownCap w s.size 0 e := grownCap_ge w s.size 0 e
  have harr := bytesArr_size s _ hcap
  generalize hg : grownCap w s.size 0 e = cap at hcap harr
  have hw1 : (w.drew.alloc (.cells (bytesArr s cap) e)).heap[w.heap.size]? = some (.cells (bytesArr s cap) e (0, 0)) := alloc_new w.drew _
  have hshape : (w.drew.alloc (.cells (bytesArr s cap) e)).shape? w.heap.size = some (e, cap) := by
    simp only [World.shape?, hw1, harr]
  refine ⟨.slice (some ⟨w.heap.size, 0, none⟩) s.size cap, (w.drew.alloc (.cells (bytesArr s cap) e)).freeze ⟨w.heap.size, cap, none⟩ 1, cap, ?_, ?_, fun k hk => ?_, (freeze_rest _ _ _).1, (freeze_rest _ _ _).2.1, (freeze_rest _ _ _).2.2, fun ρ' id _ hid => ⟨?_, ?_⟩⟩
  · have hrow : (newRow e (s.data.map (fun b => Value.int .u8 (b.toNat : Int)) ++ Array.replicate (cap - s.size) (.int .u8 0))).run P w.drew = .ok ⟨w.heap.size, 0, none⟩ (w.drew.alloc (.cells (bytesArr s cap) e)) := rfl
    have hm := run_markStringish (P := P) (a := ⟨w.heap.size, 0, none⟩) hshape
    simp only [Conv.stringToBytes, Sem.run_bind, run_choose_cap, Result.andThen_ok, hg, hrow, hm, Sem.run_pure]
  · rw [freeze_size]; exact (alloc_old w.drew _).1
  · rw [freeze_else (by simp; omega)]; exact (alloc_old w.drew _).2 k hk
  · refine ⟨bytesArr s cap, cap, cap + 1, freeze_here hw1 (by omega), rfl, by simp only []; omega, by simp only []; omega, (fun h => by cases h), fun i hi => ?_, fun o _ ho => by simp only [] at ho; omega, fun h => by cases h⟩
    have hi' : i < s.data.size := by simpa using hi
    have hs : s.data.size = s.size := rfl
    refine ⟨.int .u8 (s.data[i]).toNat, ?_, ?_⟩
    · simp only [bytesArr, Nat.zero_add]
      rw [Array.getElem?_append_left (by simpa using hi')]
      rw [Array.getElem?_map, Array.getElem?_eq_getElem hi']
      rfl
    · simp only [cellOf, T.get_ofList, bytesA_get]
      rw [Array.getElem?_toList, Array.getElem?_eq_getElem hi']
      simp only [Option.map_some, VR]
  · simp only [bytesRowA, VR]
    exact ⟨_, cap, hid, by rw [hsz], by omega, by simp⟩
def noZeroA (P : Program) (t : TypeId) (n : Nat) : Option (AB × (Nat → AV)) :=
  match P.underlying t with
  | some (.slice e) => cond (Nat.ble n 1073741824) (some (.cells e n .leaf true 0 false, fun id => .slice id 0 n none 1)) none
  | _ => none
theorem digits_size : ∀ (n t : Nat) (acc : Array Value), (Extern.BytealgMakeNoZero.digits n t acc).size = acc.size + n
  | 0, t, acc => rfl
  | n + 1, t, acc => by
    simp only [Extern.BytealgMakeNoZero.digits]
    rw [digits_size n]
    simp; omega
theorem noZeroA_ok {P : Program} {ρ : Place} {t : TypeId} {n : Nat} {blk : AB} {f : Nat → AV} (h : noZeroA P t n = some (blk, f)) (w : World) :
    MadeR P ρ blk f w ((do pure (.value (← Extern.BytealgMakeNoZero.makeNoZero #[] #[t] #[.int .i64 n])) : Sem Next).run P w) := by
  unfold noZeroA at h
  split at h
  · rename_i e hu
    cases hb : Nat.ble n 1073741824 with
    | false => rw [hb] at h; simp at h
    | true =>
      rw [hb] at h
      simp only [cond_true, Option.some.injEq, Prod.mk.injEq] at h
      obtain ⟨rfl, rfl⟩ := h
      have hn : n ≤ 1073741824 := by simpa [Nat.ble_eq] using hb
      have hcap : n ≤ grownCap w n 0 e := grownCap_ge w n 0 e
      generalize hg : grownCap w n 0 e = cap at hcap
      obtain ⟨q, hq⟩ : ∃ q, q = (Question.extern "internal/bytealg.MakeNoZero.bytes" 0).cut (w.drew.tape w.drew.drawn (.extern "internal/bytealg.MakeNoZero.bytes" 0)) := ⟨_, rfl⟩
      have hsz := digits_size cap q #[]
      simp only [List.size_toArray, List.length_nil, Nat.zero_add] at hsz
      have hno : (decide ((n : Int) < 0) || decide ((n : Int) > 2 ^ 48)) = false := by
        have e1 : ¬ ((n : Int) < 0) := by omega
        have e2 : ¬ ((n : Int) > 2 ^ 48) := by omega
        rw [decide_eq_false e1, decide_eq_false e2]; rfl
      have hroom : ∀ w' : World, (askRoom cap).run P w' = .ok () w' := fun w' => by
        unfold askRoom
        split <;> rfl
      have hch : (choose (.extern "internal/bytealg.MakeNoZero.bytes" 0)).run P w.drew = .ok q w.drew.drew := by
        rw [hq]
        simp [choose, Sem.run, Question.forced]
        rfl
      refine ⟨.slice (some ⟨w.heap.size, 0, none⟩) n cap, w.drew.drew.alloc (.cells (Extern.BytealgMakeNoZero.digits cap q #[]) e), cap, ?_, (alloc_old w.drew.drew _).1, (alloc_old w.drew.drew _).2, rfl, rfl, rfl, fun ρ' id _ hid => ⟨?_, ?_⟩⟩
      · have hmk : Extern.BytealgMakeNoZero.makeNoZero #[] #[t] #[.int .i64 n] = (do
            let .slice elem ← underlying t | stuck "bytealg.MakeNoZero: slice type expected"
            if (n : Int) < 0 || (n : Int) > 2 ^ 48 then runtimePanic (.error "makeslice: len out of range")
            let cap ← choose (.appendCap (n : Int).toNat 0 elem)
            askRoom cap
            let bytes ← choose (.extern "internal/bytealg.MakeNoZero.bytes" 0)
            let a ← newRow elem (Extern.BytealgMakeNoZero.digits cap bytes #[])
            pure (.slice (some a) (n : Int).toNat cap)) := rfl
        rw [hmk]
        simp only [Sem.run_bind, run_underlying hu, Result.andThen_ok]
        rw [if_neg (by simpa using hno)]
        simp only [Sem.run_bind, Sem.run_pure, Result.andThen_ok, Int.toNat_natCast, run_choose_cap, hg, hroom, hch, run_newRow]
        rfl
      · refine ⟨_, 0, 0, alloc_new w.drew.drew _, rfl, by simp only []; omega, by simp only []; omega, (fun h => by cases h), fun i hi => ?_, fun o _ _ => by omega, fun _ => by omega⟩
        refine ⟨_, Array.getElem?_eq_getElem (by simp only []; omega), ?_⟩
        simp [cellOf, VR]
      · simp only [VR]
        exact ⟨_, cap, hid, rfl, hcap, by simp⟩
  · cases h
end Go.Proofs.YtkeibmkcgnppeaaGreatDoor.Rx

/- A reflective evaluator of the model's code, part X: values that are expressions over named values: their kinds, what is known of them, operations on them. -/
import Derived.Test.YtiamenedboifeabGreatDoorRxC
namespace Go.Proofs.YtiamenedboifeabGreatDoor.Rx

/-! Kinds. -/

def hasTy : Value → Ty → Bool
  | .int k _, .int k' => decide (k = k')
  | .bool _, .bool => true
  | .string _, .str => true
  | .float k _, .flt k' => decide (k = k')
  | _, _ => false

inductive OpK where
  | cmp
  | arith
  | other

def opK : BinOp → OpK
  | .eql | .neq | .lss | .leq | .gtr | .geq => .cmp
  | .add | .sub | .mul | .and | .or | .xor | .andNot => .arith
  | _ => .other

def eqOp : BinOp → Bool
  | .eql | .neq => true
  | _ => false

def tyOf (ts : T Ty) : Exp → Option Ty
  | .sym k => ts.get k
  | .lit (.int k _) => some (.int k)
  | .lit (.bool _) => some .bool
  | .lit (.string _) => some .str
  | .lit (.float k _) => some (.flt k)
  | .lit _ => none
  | .bin o a b => match tyOf ts a, tyOf ts b with
    | some (.int k), some (.int k') => match decide (k = k') with
      | true => match opK o with
        | .cmp => some .bool
        | .arith => some (.int k)
        | .other => none
      | false => none
    | some .str, some .str => match opK o with
      | .cmp => some .bool
      | _ => none
    | some (.flt k), some (.flt k') => match decide (k = k') with
      | true => match opK o with
        | .cmp => some .bool
        | _ => none
      | false => none
    | some .bool, some .bool => match eqOp o with
      | true => some .bool
      | false => none
    | _, _ => none
  | .not a => match tyOf ts a with
    | some .bool => some .bool
    | _ => none
  | .len a => match tyOf ts a with
    | some .str => some (.int .i64)
    | _ => none

theorem hasTy_int {v : Value} {k : IntKind} (h : hasTy v (.int k) = true) : ∃ n, v = .int k n := by
  unfold hasTy at h
  split at h <;> first | (rename_i he; cases he) | skip
  all_goals first | (simp only [decide_eq_true_eq] at h; subst h; exact ⟨_, rfl⟩) | cases h
theorem hasTy_bool {v : Value} (h : hasTy v .bool = true) : ∃ b, v = .bool b := by
  cases v <;> first | exact ⟨_, rfl⟩ | simp [hasTy] at h
theorem hasTy_str {v : Value} (h : hasTy v .str = true) : ∃ s, v = .string s := by
  cases v <;> first | exact ⟨_, rfl⟩ | simp [hasTy] at h
theorem hasTy_flt {v : Value} {k : FloatKind} (h : hasTy v (.flt k) = true) : ∃ n, v = .float k n := by
  cases v <;> first | (simp only [hasTy, decide_eq_true_eq] at h; subst h; exact ⟨_, rfl⟩) | simp [hasTy] at h

theorem tyOf_ok {ts : T Ty} {σ : Place} (ht : ∀ k t, ts.get k = some t → ∃ l, σ k = some l ∧ hasTy l.val t = true) : ∀ (e : Exp) (t : Ty), tyOf ts e = some t → ∃ v, e.ev σ = some v ∧ hasTy v t = true
  | .sym k, t, h => by
    obtain ⟨l, h1, h2⟩ := ht k t h
    exact ⟨l.val, by simp only [Exp.ev, h1], h2⟩
  | .lit v, t, h => by
    refine ⟨v, rfl, ?_⟩
    cases v <;> simp only [tyOf, Option.some.injEq, reduceCtorEq] at h <;> subst h <;> simp [hasTy]
  | .bin o a b, t, h => by
    simp only [tyOf] at h
    split at h
    · rename_i k k' ha hb
      obtain ⟨x, ex, hx⟩ := tyOf_ok ht a _ ha
      obtain ⟨y, ey, hy⟩ := tyOf_ok ht b _ hb
      obtain ⟨p, rfl⟩ := hasTy_int hx
      obtain ⟨q, rfl⟩ := hasTy_int hy
      simp only [Exp.ev, ex, ey]
      split at h
      · rename_i hk
        have hk := of_decide_eq_true hk
        subst hk
        cases o <;> simp only [opK, Option.some.injEq, reduceCtorEq] at h <;> subst h <;>
          simp [evBin, Go.binOp, Op.intCmp, Op.intArith, Op.intBits, pure, pure0, hasTy]
      · cases h
    · rename_i ha hb
      obtain ⟨x, ex, hx⟩ := tyOf_ok ht a _ ha
      obtain ⟨y, ey, hy⟩ := tyOf_ok ht b _ hb
      obtain ⟨p, rfl⟩ := hasTy_str hx
      obtain ⟨q, rfl⟩ := hasTy_str hy
      simp only [Exp.ev, ex, ey]
      cases o <;> simp only [opK, Option.some.injEq, reduceCtorEq] at h <;> subst h <;>
          simp [evBin, Go.binOp, Op.stringOp, pure, pure0, hasTy]
    · rename_i k k' ha hb
      obtain ⟨x, ex, hx⟩ := tyOf_ok ht a _ ha
      obtain ⟨y, ey, hy⟩ := tyOf_ok ht b _ hb
      obtain ⟨p, rfl⟩ := hasTy_flt hx
      obtain ⟨q, rfl⟩ := hasTy_flt hy
      simp only [Exp.ev, ex, ey]
      split at h
      · rename_i hk
        have hk := of_decide_eq_true hk
        subst hk
        cases o <;> simp only [opK, Option.some.injEq, reduceCtorEq] at h <;> subst h <;>
          simp [evBin, Go.binOp, Op.floatCmp, pure, pure0, hasTy]
      · cases h
    · rename_i ha hb
      obtain ⟨x, ex, hx⟩ := tyOf_ok ht a _ ha
      obtain ⟨y, ey, hy⟩ := tyOf_ok ht b _ hb
      obtain ⟨p, rfl⟩ := hasTy_bool hx
      obtain ⟨q, rfl⟩ := hasTy_bool hy
      simp only [Exp.ev, ex, ey]
      cases o <;> simp only [eqOp, Option.some.injEq, reduceCtorEq] at h <;> subst h <;> simp [evBin, hasTy]
    · cases h
  | .not a, t, h => by
    simp only [tyOf] at h
    split at h
    · rename_i ha
      simp only [Option.some.injEq] at h
      subst h
      obtain ⟨x, ex, hx⟩ := tyOf_ok ht a _ ha
      obtain ⟨p, rfl⟩ := hasTy_bool hx
      exact ⟨.bool !p, by simp only [Exp.ev, ex], rfl⟩
    · cases h
  | .len a, t, h => by
    simp only [tyOf] at h
    split at h
    · rename_i ha
      simp only [Option.some.injEq] at h
      subst h
      obtain ⟨x, ex, hx⟩ := tyOf_ok ht a _ ha
      obtain ⟨p, rfl⟩ := hasTy_str hx
      exact ⟨_, by simp only [Exp.ev, ex]; rfl, by simp [hasTy]⟩
    · cases h

/-! The same expression. -/

def litSame : Value → Value → Bool
  | .int k a, .int k' b => match decide (k = k') with
    | true => decide (a = b)
    | false => false
  | .bool a, .bool b => match a, b with
    | true, true => true
    | false, false => true
    | _, _ => false
  | .string a, .string b => decide (a = b)
  | .float k a, .float k' b => match decide (k = k') with
    | true => decide (a = b)
    | false => false
  | _, _ => false

theorem litSame_ok {v w : Value} (h : litSame v w = true) : v = w := by
  unfold litSame at h
  split at h
  · split at h
    · rename_i hk
      have hk := of_decide_eq_true hk
      have h := of_decide_eq_true h
      rw [hk, h]
    · cases h
  · split at h
    · rfl
    · rfl
    · cases h
  · have h := of_decide_eq_true h
    rw [h]
  · split at h
    · rename_i hk
      have hk := of_decide_eq_true hk
      have h := of_decide_eq_true h
      rw [hk, h]
    · cases h
  · cases h

def Exp.same : Exp → Exp → Bool
  | .sym a, .sym b => Nat.beq a b
  | .lit v, .lit w => litSame v w
  | .bin o a b, .bin o' a' b' => match decide (o = o') with
    | true => match a.same a' with
      | true => b.same b'
      | false => false
    | false => false
  | .not a, .not b => a.same b
  | .len a, .len b => a.same b
  | _, _ => false

theorem Exp.same_ok : ∀ {a b : Exp}, a.same b = true → a = b
  | .sym a, b, h => by
    cases b <;> simp only [Exp.same, Bool.false_eq_true] at h
    rw [Nat.eq_of_beq_eq_true h]
  | .lit v, b, h => by
    cases b <;> simp only [Exp.same, Bool.false_eq_true] at h
    rw [litSame_ok h]
  | .bin o x y, b, h => by
    cases b <;> simp only [Exp.same, Bool.false_eq_true] at h
    split at h
    · rename_i ho
      split at h
      · rename_i hx
        rw [of_decide_eq_true ho, Exp.same_ok hx, Exp.same_ok h]
      · cases h
    · cases h
  | .not x, b, h => by
    cases b <;> simp only [Exp.same, Bool.false_eq_true] at h
    rw [Exp.same_ok h]
  | .len x, b, h => by
    cases b <;> simp only [Exp.same, Bool.false_eq_true] at h
    rw [Exp.same_ok h]

/-! What the facts say of a whole number. -/

structure Bd where
  lo : Option Int
  hi : Option Int
  ne : List Int

def Bd.holds (b : Bd) (n : Int) : Prop := (∀ l, b.lo = some l → l ≤ n) ∧ (∀ h, b.hi = some h → n ≤ h) ∧ ∀ d ∈ b.ne, n ≠ d

def maxO : Option Int → Int → Option Int
  | none, c => some c
  | some l, c => some (if l ≤ c then c else l)
def minO : Option Int → Int → Option Int
  | none, c => some c
  | some l, c => some (if l ≤ c then l else c)

/-- What a comparison with a number, true or not, says. -/
def Bd.tell (b : Bd) (o : BinOp) (t : Bool) (c : Int) : Bd :=
  match o, t with
  | .eql, true | .neq, false => ⟨maxO b.lo c, minO b.hi c, b.ne⟩
  | .eql, false | .neq, true => ⟨b.lo, b.hi, c :: b.ne⟩
  | .lss, true | .geq, false => ⟨b.lo, minO b.hi (c - 1), b.ne⟩
  | .lss, false | .geq, true => ⟨maxO b.lo c, b.hi, b.ne⟩
  | .leq, true | .gtr, false => ⟨b.lo, minO b.hi c, b.ne⟩
  | .leq, false | .gtr, true => ⟨maxO b.lo (c + 1), b.hi, b.ne⟩
  | _, _ => b

def cmpInt (o : BinOp) (x y : Int) : Option Bool :=
  match o with
  | .eql => some (decide (x = y))
  | .neq => some (!decide (x = y))
  | .lss => some (decide (x < y))
  | .leq => some (decide (x ≤ y))
  | .gtr => some (decide (y < x))
  | .geq => some (decide (y ≤ x))
  | _ => none

theorem maxO_ok {o : Option Int} {c l n : Int} (h1 : ∀ l, o = some l → l ≤ n) (h2 : c ≤ n) (h : maxO o c = some l) : l ≤ n := by
  cases o with
  | none => simp only [maxO, Option.some.injEq] at h; omega
  | some q =>
    have := h1 q rfl
    simp only [maxO, Option.some.injEq] at h
    split at h <;> omega
theorem minO_ok {o : Option Int} {c l n : Int} (h1 : ∀ l, o = some l → n ≤ l) (h2 : n ≤ c) (h : minO o c = some l) : n ≤ l := by
  cases o with
  | none => simp only [minO, Option.some.injEq] at h; omega
  | some q =>
    have := h1 q rfl
    simp only [minO, Option.some.injEq] at h
    split at h <;> omega

theorem Bd.tell_ok {b : Bd} {n c : Int} {o : BinOp} {t : Bool} (hb : b.holds n) (h : cmpInt o n c = some t) : (b.tell o t c).holds n := by
  obtain ⟨h1, h2, h3⟩ := hb
  have hlo : ∀ d, d ≤ n → ∀ l, maxO b.lo d = some l → l ≤ n := fun d hd l hl => maxO_ok h1 hd hl
  have hhi : ∀ d, n ≤ d → ∀ l, minO b.hi d = some l → n ≤ l := fun d hd l hl => minO_ok h2 hd hl
  have hne : n ≠ c → ∀ d ∈ c :: b.ne, n ≠ d := fun hc d hd => by
    rcases List.mem_cons.1 hd with rfl | hd
    · exact hc
    · exact h3 d hd
  cases o <;> cases t <;> simp only [cmpInt, Option.some.injEq, decide_eq_true_eq, decide_eq_false_iff_not, Bool.not_eq_true', Bool.not_eq_false', reduceCtorEq] at h <;> simp only [Bd.tell]
  all_goals first
    | exact ⟨h1, h2, h3⟩
    | exact ⟨hlo c (by omega), hhi c (by omega), h3⟩
    | exact ⟨h1, h2, hne (by omega)⟩
    | exact ⟨h1, hhi (c - 1) (by omega), h3⟩
    | exact ⟨hlo c (by omega), h2, h3⟩
    | exact ⟨h1, hhi c (by omega), h3⟩
    | exact ⟨hlo (c + 1) (by omega), h2, h3⟩

/-- What a fact says of this expression. -/
def tell1 (x : Exp) (b : Bd) (f : Exp × Bool) : Bd :=
  match f.1 with
  | .bin o y (.lit (.int _ c)) => match x.same y with
    | true => b.tell o f.2 c
    | false => b
  | _ => b

/-- The facts that speak of this expression. -/
def tells (x : Exp) : List (Exp × Bool) → Bd → Bd
  | [], b => b
  | f :: r, b => tells x r (tell1 x b f)

theorem evBin_int {o : BinOp} {k k' : IntKind} {n c : Int} {t : Bool} (h : evBin o (.int k n) (.int k' c) = some (.bool t)) : k = k' ∧ cmpInt o n c = some t := by
  unfold evBin at h
  by_cases hk : k = k'
  · subst hk
    refine ⟨rfl, ?_⟩
    cases o <;> simp [Go.binOp, Op.intCmp, Op.intArith, Op.intBits, Op.intDiv, Op.shift, pure, pure0, cmpInt] at h ⊢
    all_goals first
      | exact h
      | (rw [← h]; rw [Bool.eq_iff_iff]; simp; done)
      | (split at h <;> cases h)
  · exfalso
    cases o <;> simp [Go.binOp, hk, pure0, stuck, Op.shift] at h
    all_goals (split at h <;> cases h)

theorem tell1_ok {σ : Place} {x : Exp} {k : IntKind} {n : Int} (hx : x.ev σ = some (.int k n)) {b : Bd} {f : Exp × Bool} (hf : f.1.ev σ = some (.bool f.2)) (hb : b.holds n) : (tell1 x b f).holds n := by
  unfold tell1
  split
  · rename_i o y kd c heq
    split
    · rename_i hs
      have := Exp.same_ok hs
      subst this
      rw [heq] at hf
      simp only [Exp.ev, hx] at hf
      exact Bd.tell_ok hb (evBin_int hf).2
    · exact hb
  · exact hb

theorem tells_ok {σ : Place} {x : Exp} {k : IntKind} {n : Int} (hx : x.ev σ = some (.int k n)) : ∀ (l : List (Exp × Bool)) (b : Bd), (∀ f ∈ l, f.1.ev σ = some (.bool f.2)) → b.holds n → (tells x l b).holds n
  | [], b, _, hb => hb
  | f :: r, b, hl, hb => tells_ok hx r _ (fun g hg => hl g (by simp [hg])) (tell1_ok hx (hl f (by simp)) hb)

def memI (c : Int) : List Int → Bool
  | [] => false
  | d :: r => match decide (c = d) with
    | true => true
    | false => memI c r

theorem memI_ok {c : Int} : ∀ {l : List Int}, memI c l = true → c ∈ l
  | [], h => by simp [memI] at h
  | d :: r, h => by
    unfold memI at h
    split at h
    · rename_i hc; rw [of_decide_eq_true hc]; simp
    · exact List.mem_cons_of_mem _ (memI_ok h)

/-- The lower bound, raised past what is ruled out. -/
def bump : Nat → Int → List Int → Int
  | 0, l, _ => l
  | k + 1, l, ne => match memI l ne with
    | true => bump k (l + 1) ne
    | false => l

theorem bump_ok {n : Int} {ne : List Int} (hne : ∀ d ∈ ne, n ≠ d) : ∀ (k : Nat) (l : Int), l ≤ n → bump k l ne ≤ n
  | 0, l, h => h
  | k + 1, l, h => by
    unfold bump
    split
    · rename_i hm
      have := hne l (memI_ok hm)
      exact bump_ok hne k (l + 1) (by omega)
    · exact h

/-- Is the number less? -/
def ltKnown (b : Bd) (c : Int) : Option Bool :=
  match (match b.hi with
    | some h => decide (h < c)
    | none => false) with
  | true => some true
  | false => match b.lo with
    | some l => match decide (c ≤ bump b.ne.length l b.ne) with
      | true => some false
      | false => none
    | none => none

theorem ltKnown_ok {b : Bd} {n c : Int} {t : Bool} (hb : b.holds n) (h : ltKnown b c = some t) : decide (n < c) = t := by
  obtain ⟨h1, h2, h3⟩ := hb
  unfold ltKnown at h
  split at h
  · rename_i hh
    simp only [Option.some.injEq] at h
    subst h
    split at hh
    · rename_i q hq
      have := h2 q hq
      have := of_decide_eq_true hh
      simp; omega
    · cases hh
  · split at h
    · rename_i l hl
      split at h
      · rename_i hc
        simp only [Option.some.injEq] at h
        subst h
        have := of_decide_eq_true hc
        have := bump_ok h3 b.ne.length l (h1 l hl)
        simp; omega
      · cases h
    · cases h

def eqKnown (b : Bd) (c : Int) : Option Bool :=
  match memI c b.ne with
  | true => some false
  | false => match ltKnown b c with
    | some true => some false
    | some false => match ltKnown b (c + 1) with
      | some true => some true
      | some false => some false
      | none => none
    | none => match ltKnown b (c + 1) with
      | some false => some false
      | _ => none

theorem eqKnown_ok {b : Bd} {n c : Int} {t : Bool} (hb : b.holds n) (h : eqKnown b c = some t) : decide (n = c) = t := by
  have h3 := hb.2.2
  unfold eqKnown at h
  split at h
  · rename_i hm
    simp only [Option.some.injEq] at h
    subst h
    have := h3 c (memI_ok hm)
    simpa using this
  · split at h
    · rename_i hl
      simp only [Option.some.injEq] at h
      subst h
      have := ltKnown_ok hb hl
      simp at this ⊢; omega
    · rename_i hl
      have h4 := ltKnown_ok hb hl
      split at h
      · rename_i hl2
        simp only [Option.some.injEq] at h
        subst h
        have := ltKnown_ok hb hl2
        simp at this h4 ⊢; omega
      · rename_i hl2
        simp only [Option.some.injEq] at h
        subst h
        have := ltKnown_ok hb hl2
        simp at this ⊢; omega
      · cases h
    · split at h
      · rename_i hl2
        simp only [Option.some.injEq] at h
        subst h
        have := ltKnown_ok hb hl2
        simp at this ⊢; omega
      · cases h

def notO : Option Bool → Option Bool
  | some b => some !b
  | none => none

def decBd (b : Bd) (o : BinOp) (c : Int) : Option Bool :=
  match o with
  | .eql => eqKnown b c
  | .neq => notO (eqKnown b c)
  | .lss => ltKnown b c
  | .geq => notO (ltKnown b c)
  | .leq => ltKnown b (c + 1)
  | .gtr => notO (ltKnown b (c + 1))
  | _ => none

theorem decBd_ok {b : Bd} {o : BinOp} {n c : Int} {t : Bool} (hb : b.holds n) (h : decBd b o c = some t) : cmpInt o n c = some t := by
  have key : ∀ {q : Option Bool} {t : Bool}, notO q = some t → q = some !t := by
    intro q t hq
    cases q with
    | none => cases hq
    | some b => simp only [notO, Option.some.injEq] at hq; subst hq; simp
  cases o <;> simp only [decBd, reduceCtorEq] at h <;> simp only [cmpInt, Option.some.injEq]
  · exact eqKnown_ok hb h
  · have := eqKnown_ok hb (key h); rw [this]; simp
  · exact ltKnown_ok hb h
  · have := ltKnown_ok hb h; rw [← this]; rw [decide_eq_decide]; omega
  · have := ltKnown_ok hb (key h)
    cases t <;> simp at this ⊢ <;> omega
  · have := ltKnown_ok hb (key h)
    cases t <;> simp at this ⊢ <;> omega

/-! What is known of a condition. -/

def look (e : Exp) : List (Exp × Bool) → Option Bool
  | [] => none
  | f :: r => match e.same f.1 with
    | true => some f.2
    | false => look e r

theorem look_ok {σ : Place} {e : Exp} {t : Bool} : ∀ {l : List (Exp × Bool)}, (∀ f ∈ l, f.1.ev σ = some (.bool f.2)) → look e l = some t → e.ev σ = some (.bool t)
  | [], _, h => by simp [look] at h
  | f :: r, hl, h => by
    unfold look at h
    split at h
    · rename_i hs
      simp only [Option.some.injEq] at h
      rw [Exp.same_ok hs, hl f (by simp), h]
    · exact look_ok (fun g hg => hl g (by simp [hg])) h

/-- What is known of an expression's number to begin with. -/
def startBd : Exp → Bd
  | .len _ => ⟨some 0, none, []⟩
  | _ => ⟨none, none, []⟩

theorem startBd_ok {σ : Place} {x : Exp} {k : IntKind} {n : Int} (hx : x.ev σ = some (.int k n)) : (startBd x).holds n := by
  cases x with
  | len a =>
    simp only [Exp.ev] at hx
    split at hx
    · simp only [Option.some.injEq, Value.int.injEq] at hx
      refine ⟨fun l hl => ?_, (fun h hh => by cases hh), (fun d hd => by cases hd)⟩
      simp only [startBd, Option.some.injEq] at hl
      omega
    · cases hx
  | _ => exact ⟨(fun l hl => by cases hl), (fun h hh => by cases hh), (fun d hd => by cases hd)⟩

def decideE (facts : List (Exp × Bool)) (e : Exp) : Option Bool :=
  match look e facts with
  | some b => some b
  | none => match e with
    | .bin o x (.lit (.int _ c)) => decBd (tells x facts (startBd x)) o c
    | .bin .eql x (.lit (.bool c)) => match look x facts with
      | some b => some (b == c)
      | none => none
    | .bin .neq x y => notO (look (.bin .eql x y) facts)
    | .not a => notO (look a facts)
    | _ => none

theorem evBin_neq {x y : Value} {q : Bool} (h : evBin .eql x y = some (.bool q)) : evBin .neq x y = some (.bool !q) := by
  unfold evBin at h ⊢
  split at h
  · rename_i k a k' b
    by_cases hk : k = k'
    · subst hk
      simp [Go.binOp, Op.intCmp, pure, pure0] at h ⊢
      rw [← h]
      rfl
    · simp [Go.binOp, hk, pure0, stuck] at h
  · rename_i k a k' b
    by_cases hk : k = k'
    · subst hk
      simp [Go.binOp, Op.floatCmp, pure, pure0] at h ⊢
      rw [← h]
      simp [bne]
    · simp [Go.binOp, hk, pure0, stuck] at h
  · simp [Go.binOp, Op.stringOp, pure, pure0] at h ⊢
    rw [← h]
  · simp at h ⊢
    rw [← h]
    simp [bne]
  · cases h

theorem cmpInt_ev {o : BinOp} {k : IntKind} {n c : Int} {t : Bool} (h : cmpInt o n c = some t) : evBin o (.int k n) (.int k c) = some (.bool t) := by
  cases o <;> simp only [cmpInt, Option.some.injEq, reduceCtorEq] at h <;> subst h <;> simp [evBin, Go.binOp, Op.intCmp, pure, pure0]
  all_goals (rw [Bool.eq_iff_iff]; simp)

theorem decideE_ok {ts : T Ty} {σ : Place} (ht : ∀ k t, ts.get k = some t → ∃ l, σ k = some l ∧ hasTy l.val t = true) {facts : List (Exp × Bool)} (hf : ∀ f ∈ facts, f.1.ev σ = some (.bool f.2)) {e : Exp} {b : Bool}
    (hty : tyOf ts e = some .bool) (h : decideE facts e = some b) : e.ev σ = some (.bool b) := by
  unfold decideE at h
  split at h
  · rename_i q hq
    simp only [Option.some.injEq] at h
    subst h
    exact look_ok hf hq
  · split at h
    · rename_i o x kd c _
      simp only [tyOf] at hty
      split at hty
      · rename_i k k' ha hb
        obtain ⟨v, ev, hv⟩ := tyOf_ok ht x _ ha
        obtain ⟨n, rfl⟩ := hasTy_int hv
        simp only [Option.some.injEq, Ty.int.injEq] at hb
        subst hb
        split at hty
        · rename_i hk
          have hk := of_decide_eq_true hk
          subst hk
          have := decBd_ok (tells_ok ev facts (startBd x) hf (startBd_ok ev)) h
          simp only [Exp.ev, ev]
          exact cmpInt_ev this
        · cases hty
      all_goals first
        | (rename_i ha hb; simp at hb; done)
        | cases hty
    · rename_i x c _
      split at h
      · rename_i b' hb'
        simp only [Option.some.injEq] at h
        subst h
        simp only [Exp.ev, look_ok hf hb', evBin]
      · cases h
    · rename_i x y _ _
      unfold notO at h
      split at h
      · rename_i q hq
        simp only [Option.some.injEq] at h
        subst h
        have := look_ok hf hq
        simp only [Exp.ev] at this ⊢
        split at this
        · rename_i v1 v2 e1 e2
          exact evBin_neq this
        · cases this
      · cases h
    · rename_i a _
      unfold notO at h
      split at h
      · rename_i q hq
        simp only [Option.some.injEq] at h
        subst h
        simp only [Exp.ev, look_ok hf hq]
      · cases h
    · cases h

/-- An expression, made a value: a truth that is known is told. -/
def resolveE (ts : T Ty) (facts : List (Exp × Bool)) (e : Exp) : Option AV :=
  match tyOf ts e with
  | some .bool => match decideE facts e with
    | some b => some (.lit (.bool b))
    | none => some (.ex e)
  | some _ => some (.ex e)
  | none => none

theorem resolveE_ok {ts : T Ty} {σ ρ : Place} (hle : σ.le ρ) (ht : ∀ k t, ts.get k = some t → ∃ l, σ k = some l ∧ hasTy l.val t = true) {facts : List (Exp × Bool)} (hf : ∀ f ∈ facts, f.1.ev σ = some (.bool f.2)) {e : Exp} {a : AV}
    (h : resolveE ts facts e = some a) : ∃ v, e.ev ρ = some v ∧ VR ρ a v := by
  have one : ∀ {v : Value} {t : Ty}, hasTy v t = true → v.oneCell' = true := by
    intro v t hv
    cases v <;> first | rfl | (cases t <;> simp [hasTy] at hv)
  unfold resolveE at h
  split at h
  · rename_i hty
    split at h
    · rename_i b hb
      simp only [Option.some.injEq] at h
      subst h
      exact ⟨.bool b, Exp.ev_mono hle (decideE_ok ht hf hty hb), by simp [VR]⟩
    · simp only [Option.some.injEq] at h
      subst h
      obtain ⟨v, h1, h2⟩ := tyOf_ok ht e _ hty
      exact ⟨v, Exp.ev_mono hle h1, by simp only [VR]; exact ⟨Exp.ev_mono hle h1, one h2⟩⟩
  · rename_i t hty
    simp only [Option.some.injEq] at h
    subst h
    obtain ⟨v, h1, h2⟩ := tyOf_ok ht e _ hty
    exact ⟨v, Exp.ev_mono hle h1, by simp only [VR]; exact ⟨Exp.ev_mono hle h1, one h2⟩⟩
  · cases h

end Go.Proofs.YtiamenedboifeabGreatDoor.Rx

/- A reflective evaluator of the model's code, part Y: code piece by piece, for loops that are shown by induction; trees of facts. -/
import Derived.Test.YtiamenedboifeabGreatDoorRxT
namespace Go.Proofs.YtiamenedboifeabGreatDoor.Rx

/-! An environment with names, facts and contracts. -/

def Env.plus (E : Env) (con : FuncId → List AV → Option AV) (opc opn : Op → (Operand → AV) → Option AV) (sy : Place) (old : Nat → Option (Option Obj)) (tys : T Ty) (facts : List (Exp × Bool)) : Env :=
  { E with con := con, opc := opc, opn := opn, sy := sy, old := old, tys := tys, facts := facts }

theorem Env.OK.plus {E : Env} (OK : E.OK) {con : FuncId → List AV → Option AV} {opc opn : Op → (Operand → AV) → Option AV} {sy : Place} {old : Nat → Option (Option Obj)} {tys : T Ty} {facts : List (Exp × Bool)}
    (hcon : ∀ f args v, con f args = some v → ∀ (base : Nat) (ρ : Place) (w : World) (vals : List Value), (E.plus con opc opn sy old tys facts).Still base w → sy.le ρ → base ≤ w.heap.size → VRs ρ args vals →
      Calls E.P f vals.toArray w fun e w' => ∃ x, e = .returned x ∧ VR ρ v x ∧ RowKit.Below w.heap.size w w')
    (hopc : ∀ op g v, opc op g = some v → ∀ (base : Nat) (ρ : Place) (w : World) (e : Operand → Value), (E.plus con opc opn sy old tys facts).Still base w → sy.le ρ → (∀ x, VR ρ (g x) (e x)) →
      ∀ o : Oper, o.op = op → ∃ x, (execOp e o).run E.P w = .ok (.value x) w ∧ VR ρ v x)
    (hopn : ∀ op g v, opn op g = some v → ∀ (base : Nat) (ρ : Place) (w : World) (e : Operand → Value), (E.plus con opc opn sy old tys facts).Still base w → sy.le ρ → (∀ x, VR ρ (g x) (e x)) →
      ∀ o : Oper, o.op = op → ∃ x w', (execOp e o).run E.P w = .ok (.value x) w' ∧ VR ρ v x ∧ w'.heap = w.heap ∧ w'.os = w.os ∧ w'.tape = w.tape ∧ w'.output = w.output)
    (hty : ∀ k t, tys.get k = some t → ∃ l, sy k = some l ∧ hasTy l.val t = true)
    (hfact : ∀ f ∈ facts, f.1.ev sy = some (.bool f.2)) : (E.plus con opc opn sy old tys facts).OK where
  mixed := OK.mixed
  fn := OK.fn
  ext := OK.ext
  con := hcon
  opc := hopc
  opn := hopn
  ty := hty
  fact := hfact

/-- Names 0, 1, .. of these values. -/
def symTab (b : Nat) (l : List Value) : Place := fun k => match l[k]? with
  | some v => some ⟨b, 0, 0, v⟩
  | none => none

theorem symTab_lt {b : Nat} {l : List Value} {k : Nat} {lc : Loc} (h : symTab b l k = some lc) : k < l.length ∧ lc.blk = b := by
  unfold symTab at h
  split at h
  · rename_i v hv
    simp only [Option.some.injEq] at h
    subst h
    refine ⟨?_, rfl⟩
    rcases Nat.lt_or_ge k l.length with h | h
    · exact h
    · rw [List.getElem?_eq_none h] at hv; cases hv
  · cases h

/-- A memory that holds nothing but names. -/
theorem Cons.syms {E : Env} {l : List Value} {w : World} {b n : Nat} (hsy : E.sy = symTab b l) (hn : l.length ≤ n) (hs : E.Still b w) : Cons E b (symTab b l) ⟨n, .leaf⟩ w where
  blk b x hx := by simp at hx
  inj b b' x x' l l' hx := by simp at hx
  bound k lc h := Nat.lt_of_lt_of_le (symTab_lt h).1 hn
  low k lc h := Nat.le_of_eq (symTab_lt h).2.symm
  glob := hs
  sym := by rw [hsy]; exact .refl _

/-- A CALL OF NAMED VALUES that answers a literal. -/
theorem sym_call {E : Env} (OK : E.OK) {k : Nat} {f : FuncId} {args : List AV} {n b : Nat} {v : Value} (h : ans (eval E k (.call (.fn f) args ⟨n, .leaf⟩)) = some v) (w : World)
    {l : List Value} (hsy : E.sy = symTab b l) (hb : b ≤ w.heap.size) (hn : l.length ≤ n) (hs : E.Still b w) {vals : List Value} (ha : VRs (symTab b l) args vals) :
    Calls E.P f vals.toArray w fun e w' => e = .returned v ∧ RowKit.Below w.heap.size w w' := by
  unfold ans at h
  split at h
  · rename_i x M hM
    simp only [Option.some.injEq] at h
    subst h
    have hcall : callOf (eval E k) (.fn f) args ⟨n, .leaf⟩ = some (.ret (.lit x), M) := by
      unfold callOf
      rw [hM]
    have hc := Cons.syms (n := n) hsy hn hs
    have := (eval_ok OK b k).2.1 (.fn f) _ ⟨n, .leaf⟩ _ M hcall (symTab b l) w vals hc hb ha
    refine Calls.mono this fun e w' he => ?_
    obtain ⟨ρ', k1, k2⟩ := he
    refine ⟨?_, ⟨k1.os, k1.tape, k1.output, k1.size, fun i hi => k1.frame i hi fun b x lc hx => by simp at hx⟩⟩
    cases e with
    | returned v => simp only [EndR, VR] at k2; rw [k2]
    | _ => exact k2.elim
  · cases h

/-! Code piece by piece. -/

def secs : Code → List Code
  | .seq a b => secs a ++ secs b
  | c => [c]

def wpL (P : Program) : List Code → (Exit → Act → World → Prop) → Act → World → Prop
  | [], Q, a, w => Q .normal a w
  | c :: r, Q, a, w => c.wp P (Exit.then (wpL P r Q) Q) a w

theorem wpL_app {P : Program} {r : List Code} {Q : Exit → Act → World → Prop} : ∀ {l : List Code} {a : Act} {w : World}, wpL P l (Exit.then (wpL P r Q) Q) a w → wpL P (l ++ r) Q a w
  | [], _, _, h => h
  | c :: l, a, w, h => wp_mono h fun e a w he => by
    cases e with
    | normal => exact wpL_app he
    | _ => exact he

theorem wpL_split {P : Program} {r : List Code} {Q : Exit → Act → World → Prop} : ∀ {l : List Code} {a : Act} {w : World}, wpL P (l ++ r) Q a w → wpL P l (Exit.then (wpL P r Q) Q) a w
  | [], _, _, h => h
  | c :: l, a, w, h => wp_mono h fun e a w he => by
    cases e with
    | normal => exact wpL_split he
    | _ => exact he

theorem wpL_mono {P : Program} {Q Q' : Exit → Act → World → Prop} (hq : ∀ e a w, Q e a w → Q' e a w) : ∀ {l : List Code} {a : Act} {w : World}, wpL P l Q a w → wpL P l Q' a w
  | [], _, _, h => hq _ _ _ h
  | c :: l, a, w, h => wp_mono h fun e a w he => by
    cases e with
    | normal => exact wpL_mono hq he
    | _ => exact hq _ _ _ he

theorem wp_secs {P : Program} : ∀ (c : Code) {Q : Exit → Act → World → Prop} {a : Act} {w : World}, wpL P (secs c) Q a w → c.wp P Q a w
  | .seq x y, Q, a, w, h => by
    have h1 := wp_secs x (wpL_split (l := secs x) (r := secs y) h)
    refine wp_seq (wp_mono h1 fun e a w he => ?_)
    cases e with
    | normal => exact wp_secs y he
    | _ => exact he
  | c, Q, a, w, h => by
    unfold secs at h
    split at h
    · rename_i x y
      have h1 := wp_secs x (wpL_split (l := secs x) (r := secs y) h)
      refine wp_seq (wp_mono h1 fun e a w he => ?_)
      cases e with
      | normal => exact wp_secs y he
      | _ => exact he
    · refine wp_mono (show c.wp P (Exit.then (wpL P [] Q) Q) a w from h) fun e a w he => ?_
      cases e with
      | normal => exact he
      | _ => exact he

/-- The pieces, one behind the other. -/
def evalL (rc : CodeF) (n : Nat) : List Code → St → Option (AExit × St)
  | [], s => some (.normal, s)
  | c :: r, s => match rc .top n c s with
    | some (.normal, s1) => evalL rc n r s1
    | x => x

theorem evalL_ok {E : Env} (OK : E.OK) {base k n : Nat} : ∀ (l : List Code) (s : St) (x : AExit) (s' : St), evalL (codeOf (eval E k)) n l s = some (x, s') → ∀ (Q : Exit → Act → World → Prop) (ρ : Place) (a : Act) (w : World),
    SR E base none ρ s n a w → Behind E base none ρ w s.M n x s' Q → wpL E.P l Q a w
  | [], s, x, s', h, Q, ρ, a, w, hr, hb => by
    simp only [evalL, Option.some.injEq, Prod.mk.injEq] at h
    obtain ⟨rfl, rfl⟩ := h
    exact hb ρ a w .normal (Step.refl hr.cons) hr trivial
  | c :: r, s, x, s', h, Q, ρ, a, w, hr, hb => by
    have hsound := (eval_ok OK base k).1
    simp only [evalL] at h
    split at h
    · rename_i s1 h1
      refine (wpIn_wide (n := 0)).1 (hsound.top (rd := none) h1 _ ρ a w hr fun ρ' a' w' e k1 k2 k3 => ?_)
      cases e with
      | normal => exact evalL_ok OK r s1 x s' h Q ρ' a' w' k2 (hb.step k1)
      | _ => exact k3.elim
    · rename_i hne
      refine (wpIn_wide (n := 0)).1 (hsound.top (rd := none) h _ ρ a w hr fun ρ' a' w' e k1 k2 k3 => ?_)
      have := hb ρ' a' w' e k1 k2 k3
      cases e with
      | normal =>
        cases x with
        | normal => exact absurd h (hne s')
        | _ => exact k3.elim
      | _ => exact this

/-! Frames and memories from what is known of them. -/

theorem FR.leaf {ρ : Place} {n : Nat} {a : Act} (h : a.tmps.size = n) : FR ρ .leaf n a := ⟨h, fun t => by simp [opd, VR]⟩

theorem FR.keep {ρ : Place} {F : T AV} {n : Nat} {a : Act} (h : FR ρ F n a) {t : Nat} {v : AV} (hv : VR ρ v (a.tmps.getD t undef)) : FR ρ (F.set t v) n a := by
  refine ⟨h.size, fun u => ?_⟩
  simp only [opd, T.get_set]
  by_cases e : u = t
  · subst e; simpa using hv
  · simp only [e, if_false]
    exact h.get u

theorem BR.to {ρ ρ' : Place} {l : Loc} {e n : Nat} {cs cs' : T AV} {row : Bool} {fz : Nat} {back : Bool} {w : World} (h : BR ρ l (.cells e n cs row fz back) w)
    (hc : ∀ i v, i < n → VR ρ (cellOf cs i) v → VR ρ' (cellOf cs' i) v) : BR ρ' l (.cells e n cs' row fz back) w := by
  obtain ⟨arr, lo, hi, h1, h0, h2, h3, h4, h5, h6, h7⟩ := h
  exact ⟨arr, lo, hi, h1, h0, h2, h3, h4, fun i hi => let ⟨v, a, b⟩ := h5 i hi; ⟨v, a, hc i v hi b⟩, h6, h7⟩

/-- Names, and one block. -/
def oneMore (b : Nat) (l : Loc) (ρ : Place) : Place := fun k => match Nat.beq k b with
  | true => some l
  | false => ρ k

theorem Cons.box {E : Env} {l : List Value} {w : World} {base b : Nat} {x : AB} {lc : Loc} (hsy : E.sy = symTab base l) (hn : l.length ≤ b) (hs : E.Still base w) (hlow : base ≤ lc.blk) (hbr : BR (oneMore b lc (symTab base l)) lc x w) :
    Cons E base (oneMore b lc (symTab base l)) ⟨b + 1, T.leaf.set b x⟩ w where
  blk k y hy := by
    rw [T.get_set] at hy
    split at hy
    · rename_i e
      simp only [Option.some.injEq] at hy
      subst e hy
      exact ⟨lc, by simp [oneMore], hbr⟩
    · simp at hy
  inj k k' y y' l l' hy hy' _ _ _ := by
    rw [T.get_set] at hy hy'
    split at hy
    · split at hy'
      · omega
      · simp at hy'
    · simp at hy
  bound k lc' h := by
    unfold oneMore at h
    split at h
    · rename_i e; have := Nat.eq_of_beq_eq_true e; show k < b + 1; omega
    · have := (symTab_lt h).1; show k < b + 1; omega
  low k lc' h := by
    unfold oneMore at h
    split at h
    · simp only [Option.some.injEq] at h; subst h; exact hlow
    · exact Nat.le_of_eq (symTab_lt h).2.symm
  glob := hs
  sym := by
    rw [hsy]
    intro k lc' h
    unfold oneMore
    split
    · rename_i e
      have h1 := Nat.eq_of_beq_eq_true e
      have := (symTab_lt h).1
      omega
    · exact h

/-! What is looked at behind a piece. -/

def AV.same : AV → AV → Bool
  | .lit a, .lit b => litSame a b
  | .ex a, .ex b => a.same b
  | .ptr b o, .ptr b' o' => match Nat.beq b b' with
    | true => Nat.beq o o'
    | false => false
  | _, _ => false

theorem AV.same_ok {a b : AV} (h : a.same b = true) : a = b := by
  unfold AV.same at h
  split at h
  · rw [litSame_ok h]
  · rw [Exp.same_ok h]
  · split at h
    · rename_i e
      rw [Nat.eq_of_beq_eq_true e, Nat.eq_of_beq_eq_true h]
    · cases h
  · cases h

def AExit.same : AExit → AExit → Bool
  | .normal, .normal => true
  | .ret, .ret => true
  | .exit i, .exit j => Nat.beq i j
  | _, _ => false

theorem AExit.same_ok {a b : AExit} (h : a.same b = true) : a = b := by
  unfold AExit.same at h
  split at h
  · rfl
  · rfl
  · rw [Nat.eq_of_beq_eq_true h]
  · cases h

def sameAll : List AV → List AV → Bool
  | [], [] => true
  | a :: as, b :: bs => match a.same b with
    | true => sameAll as bs
    | false => false
  | _, _ => false

theorem sameAll_ok : ∀ {a b : List AV}, sameAll a b = true → a = b
  | [], [], _ => rfl
  | a :: as, b :: bs, h => by
    simp only [sameAll] at h
    split at h
    · rename_i e; rw [AV.same_ok e, sameAll_ok h]
    · cases h
  | [], _ :: _, h => by cases h
  | _ :: _, [], h => by cases h

def cellsAt (M : Mem) (b : Nat) (e n : Nat) (row : Bool) (fz : Nat) (back : Bool) (cs : List AV) : Bool :=
  match M.bl.get b with
  | some (.cells e' n' T row' fz' back') => match Nat.beq e e' with
    | true => match Nat.beq n n' with
      | true => match Nat.beq fz fz' with
        | true => match decide (row = row') with
          | true => match decide (back = back') with
            | true => sameAll (cellsFrom T 0 n) cs
            | false => false
          | false => false
        | false => false
      | false => false
    | false => false
  | _ => false

theorem cellsAt_ok {M : Mem} {b e n : Nat} {row : Bool} {fz : Nat} {back : Bool} {cs : List AV} (h : cellsAt M b e n row fz back cs = true) :
    ∃ T, M.bl.get b = some (.cells e n T row fz back) ∧ cellsFrom T 0 n = cs := by
  unfold cellsAt at h
  split at h
  · rename_i e' n' T row' fz' back' hb
    split at h
    · rename_i h1
      split at h
      · rename_i h2
        split at h
        · rename_i h3
          split at h
          · rename_i h4
            split at h
            · rename_i h5
              have := Nat.eq_of_beq_eq_true h1
              have := Nat.eq_of_beq_eq_true h2
              have := Nat.eq_of_beq_eq_true h3
              have := of_decide_eq_true h4
              have := of_decide_eq_true h5
              subst e' n' fz' row' back'
              exact ⟨T, hb, sameAll_ok h⟩
            · cases h
          · cases h
        · cases h
      · cases h
    · cases h
  · cases h

/-- The piece ends so, and these temporaries are so behind it. -/
def after (o : Option (AExit × St)) (x : AExit) (ts : List Nat) (vs : List AV) : Bool :=
  match o with
  | some (y, s) => match y.same x with
    | true => match s.D with
      | [] => sameAll (ts.map fun t => opd s.F (.tmp t)) vs
      | _ => false
    | false => false
  | none => false

def afterBox (o : Option (AExit × St)) (x : AExit) (ts : List Nat) (vs : List AV) (b e n : Nat) (row : Bool) (fz : Nat) (back : Bool) (cs : List AV) : Bool :=
  match after o x ts vs with
  | true => match o with
    | some (_, s) => cellsAt s.M b e n row fz back cs
    | none => false
  | false => false

theorem after_ok {o : Option (AExit × St)} {x : AExit} {ts : List Nat} {vs : List AV} (h : after o x ts vs = true) : ∃ s, o = some (x, s) ∧ s.D = [] ∧ ts.map (fun t => opd s.F (.tmp t)) = vs := by
  unfold after at h
  split at h
  · rename_i y s
    split at h
    · rename_i hx
      split at h
      · rename_i hD
        rw [AExit.same_ok hx]
        exact ⟨s, rfl, hD, sameAll_ok h⟩
      · cases h
    · cases h
  · cases h

theorem afterBox_ok {o : Option (AExit × St)} {x : AExit} {ts : List Nat} {vs : List AV} {b e n : Nat} {row : Bool} {fz : Nat} {back : Bool} {cs : List AV} (h : afterBox o x ts vs b e n row fz back cs = true) :
    ∃ s, o = some (x, s) ∧ s.D = [] ∧ ts.map (fun t => opd s.F (.tmp t)) = vs ∧ ∃ T, s.M.bl.get b = some (.cells e n T row fz back) ∧ cellsFrom T 0 n = cs := by
  unfold afterBox at h
  split at h
  · rename_i ha
    obtain ⟨s, rfl, h1, h2⟩ := after_ok ha
    exact ⟨s, rfl, h1, h2, cellsAt_ok h⟩
  · cases h

/-! Trees of facts. -/

inductive DT where
  | leaf
  | node (e : Exp) (t f : DT)

def Env.know (E : Env) (e : Exp) (b : Bool) : Env := { E with facts := (e, b) :: E.facts }
def Env.with (E : Env) (fs : List (Exp × Bool)) : Env := { E with facts := fs }

def DT.ok (E : Env) (chk : Env → Bool) : DT → List (Exp × Bool) → Bool
  | .leaf, fs => chk (E.with fs)
  | .node e t f, fs => match tyOf E.tys e with
    | some .bool => match t.ok E chk ((e, true) :: fs) with
      | true => f.ok E chk ((e, false) :: fs)
      | false => false
    | _ => false

theorem DT.ok_node {E : Env} {chk : Env → Bool} {e : Exp} {t f : DT} {fs : List (Exp × Bool)} (h : tyOf E.tys e = some .bool) (ht : t.ok E chk ((e, true) :: fs) = true) (hf : f.ok E chk ((e, false) :: fs) = true) :
    (DT.node e t f).ok E chk fs = true := by
  simp only [DT.ok, h, ht, hf]

theorem DT.ok_at {E : Env} (ht : ∀ k t, E.tys.get k = some t → ∃ l, E.sy k = some l ∧ hasTy l.val t = true) {chk : Env → Bool} : ∀ {d : DT} {fs : List (Exp × Bool)}, d.ok E chk fs = true → (∀ f ∈ fs, f.1.ev E.sy = some (.bool f.2)) →
    ∃ fs', (∀ f ∈ fs', f.1.ev E.sy = some (.bool f.2)) ∧ chk (E.with fs') = true
  | .leaf, fs, h, hf => ⟨fs, hf, h⟩
  | .node e t f, fs, h, hf => by
    simp only [DT.ok] at h
    split at h
    · rename_i hb
      obtain ⟨v, hv, hty⟩ := tyOf_ok ht e .bool hb
      obtain ⟨b, rfl⟩ := hasTy_bool hty
      split at h
      · rename_i h1
        cases b with
        | true =>
          refine DT.ok_at ht h1 fun x hx => ?_
          rcases List.mem_cons.1 hx with rfl | hx
          · exact hv
          · exact hf x hx
        | false =>
          refine DT.ok_at ht h fun x hx => ?_
          rcases List.mem_cons.1 hx with rfl | hx
          · exact hv
          · exact hf x hx
      · cases h
    · cases h

/-- A tree of facts that says what comes out. -/
inductive DB where
  | leaf (r : Bool)
  | node (e : Exp) (t f : DB)

def DB.ok (E : Env) (chk : Bool → Env → Bool) : DB → List (Exp × Bool) → Bool
  | .leaf r, fs => chk r (E.with fs)
  | .node e t f, fs => match tyOf E.tys e with
    | some .bool => match t.ok E chk ((e, true) :: fs) with
      | true => f.ok E chk ((e, false) :: fs)
      | false => false
    | _ => false

theorem DB.ok_all {ι : Type} [Inhabited ι] {E : ι → Env} {ts : T Ty} (hE : ∀ i, (E i).tys = ts) {σ : Place} (ht : ∀ k t, ts.get k = some t → ∃ l, σ k = some l ∧ hasTy l.val t = true) {chk : Bool → Env → Bool} :
    ∀ {d : DB} {fs : List (Exp × Bool)}, (∀ i, d.ok (E i) chk fs = true) → (∀ f ∈ fs, f.1.ev σ = some (.bool f.2)) →
      ∃ r fs', (∀ f ∈ fs', f.1.ev σ = some (.bool f.2)) ∧ ∀ i, chk r ((E i).with fs') = true
  | .leaf r, fs, h, hf => ⟨r, fs, hf, h⟩
  | .node e t f, fs, h, hf => by
    have hb : tyOf ts e = some .bool := by
      have := h default
      simp only [DB.ok, hE] at this
      split at this
      · assumption
      · cases this
    obtain ⟨v, hv, hty⟩ := tyOf_ok ht e .bool hb
    obtain ⟨b, rfl⟩ := hasTy_bool hty
    have h1 : ∀ i, t.ok (E i) chk ((e, true) :: fs) = true := by
      intro i
      have := h i
      simp only [DB.ok, hE, hb] at this
      split at this
      · assumption
      · cases this
    have h2 : ∀ i, f.ok (E i) chk ((e, false) :: fs) = true := by
      intro i
      have := h i
      simp only [DB.ok, hE, hb, h1 i] at this
      exact this
    cases b with
    | true =>
      refine DB.ok_all hE ht h1 fun x hx => ?_
      rcases List.mem_cons.1 hx with rfl | hx
      · exact hv
      · exact hf x hx
    | false =>
      refine DB.ok_all hE ht h2 fun x hx => ?_
      rcases List.mem_cons.1 hx with rfl | hx
      · exact hv
      · exact hf x hx

end Go.Proofs.YtiamenedboifeabGreatDoor.Rx

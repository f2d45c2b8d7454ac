/- A reflective evaluator of the model's code, part K: one operation, calls among them; operations in the order of the text. -/
import Derived.Test.YtiamenedboifeabGreatDoorRxJ
import Derived.RangeFuncIn
import Derived.OrdersIn
namespace Go.Proofs.YtiamenedboifeabGreatDoor.Rx

/-- The fence that lets all in, in a round of a loop or in none. -/
def W (r : Option Nat) : Fence := { Fence.wide with round := r }

/-- What is called: a function of the dump, or a loop's yield. -/
inductive Cal where
  | fn (f : FuncId)
  | yld (b : Nat)


abbrev AChain := List (AV × Bool)

inductive AEnd where
  | ret (v : AV)
  | pan (ch : AChain)

structure AD where
  f : FuncId
  args : List AV
  cap : List AV
  mark : Option Nat

abbrev CallF := Cal → List AV → Mem → Option (AEnd × Mem)

def CR (ρ : Place) : AChain → List PanicEntry → Prop
  | [], es => es = []
  | (v, b) :: r, es => ∃ x es', es = { v := x, recovered := b } :: es' ∧ VR ρ v x ∧ CR ρ r es'

theorem CR.mono {ρ ρ' : Place} (h : ρ.le ρ') : ∀ {a : AChain} {es : List PanicEntry}, CR ρ a es → CR ρ' a es
  | [], _, e => e
  | (v, b) :: r, es, e => by
    simp only [CR] at e ⊢
    obtain ⟨x, es', h1, h2, h3⟩ := e
    exact ⟨x, es', h1, h2.mono h, CR.mono h h3⟩

def DR1 (ρ : Place) (d : AD) (x : Deferred) : Prop :=
  match d.mark with
  | none => ∃ cap, x.target = .fn (.func d.f) cap ∧ VRs ρ d.cap cap.toList ∧ VRs ρ d.args x.args.toList
  | some b => ∃ l, ρ b = some l ∧ x.target = .collected l.blk

def DR (ρ : Place) : List AD → List Deferred → Prop
  | [], ds => ds = []
  | d :: r, ds => ∃ x ds', ds = x :: ds' ∧ DR1 ρ d x ∧ DR ρ r ds'

theorem DR1.mono {ρ ρ' : Place} (h : ρ.le ρ') {d : AD} {x : Deferred} (e : DR1 ρ d x) : DR1 ρ' d x := by
  unfold DR1 at e ⊢
  split at e
  · obtain ⟨cap, h1, h2, h3⟩ := e
    exact ⟨cap, h1, h2.mono h, h3.mono h⟩
  · obtain ⟨l, h1, h2⟩ := e
    exact ⟨l, h _ _ h1, h2⟩

theorem DR.mono {ρ ρ' : Place} (h : ρ.le ρ') : ∀ {a : List AD} {es : List Deferred}, DR ρ a es → DR ρ' a es
  | [], _, e => e
  | d :: r, es, e => by
    simp only [DR] at e ⊢
    obtain ⟨x, es', h1, h2, h3⟩ := e
    exact ⟨x, es', h1, h2.mono h, DR.mono h h3⟩

def EndR (ρ : Place) : AEnd → Ending → Prop
  | .ret v, .returned x => VR ρ v x
  | .pan ch, .panicked c => CR ρ ch c
  | _, _ => False

/-- A call of it, with what it comes to. -/
def CalOK (P : Program) (ρ : Place) (c : Cal) (vals : Array Value) (w : World) (R : Ending → World → Prop) : Prop :=
  match c with
  | .fn f => Calls P f vals w R
  | .yld b => ∀ l, ρ b = some l → ∃ fn tmps assign body, (Instr.yield l.blk vals).run P w = .ok (.round l.blk fn tmps assign body) w ∧ RoundIn Fence.wide 0 P l.blk fn tmps assign body w R

def SoundCall (E : Env) (base : Nat) (callF : CallF) : Prop :=
  ∀ c args M x M', callF c args M = some (x, M') → ∀ ρ w vals, Cons E base ρ M w → base ≤ w.heap.size → VRs ρ args vals →
    CalOK E.P ρ c vals.toArray w fun e w' => ∃ ρ', Step E base ρ w M ρ' w' M' ∧ EndR ρ' x e

inductive ORes where
  | val (v : AV) (M : Mem)
  | pan (ch : AChain) (M : Mem)
  | dfr (d : AD)

def resOf : Option (AEnd × Mem) → Option ORes
  | some (.ret v, M) => some (.val v M)
  | some (.pan ch, M) => some (.pan ch M)
  | none => none

/-- A function value, taken apart. -/
def closA : AV → Option (FuncId × List AV × List AV)
  | .func (.func f) first cap => some (f, first, cap)
  | .lit (.func (.func f) first cap) => some (f, first.toList.map .lit, cap.toList.map .lit)
  | _ => none

theorem closA_ok {ρ : Place} {v : AV} {x : Value} {f : FuncId} {first cap : List AV} (hv : VR ρ v x) (h : closA v = some (f, first, cap)) :
    ∃ fs cs, x = .func (.func f) fs cs ∧ VRs ρ first fs.toList ∧ VRs ρ cap cs.toList := by
  unfold closA at h
  split at h
  · simp only [Option.some.injEq, Prod.mk.injEq] at h
    obtain ⟨rfl, rfl, rfl⟩ := h
    simp only [VR] at hv
    exact hv
  · simp only [Option.some.injEq, Prod.mk.injEq] at h
    obtain ⟨rfl, rfl, rfl⟩ := h
    simp only [VR] at hv
    subst hv
    exact ⟨_, _, rfl, VRs.lits _, VRs.lits _⟩
  · cases h

/-- A function value or a yield, taken apart. -/
def calA : AV → Option (Cal × List AV × List AV)
  | .func (.func f) first cap => some (.fn f, first, cap)
  | .lit (.func (.func f) first cap) => some (.fn f, first.toList.map .lit, cap.toList.map .lit)
  | .yld b => some (.yld b, [], [])
  | _ => none

theorem calA_ok {ρ : Place} {v : AV} {x : Value} {c : Cal} {first cap : List AV} (hv : VR ρ v x) (h : calA v = some (c, first, cap)) :
    ∃ fs cs, VRs ρ first fs.toList ∧ VRs ρ cap cs.toList ∧ (match c with
      | .fn f => x = .func (.func f) fs cs
      | .yld b => ∃ l, ρ b = some l ∧ x = .func (.yield l.blk) fs cs ∧ fs = #[] ∧ cs = #[]) := by
  unfold calA at h
  split at h
  · simp only [Option.some.injEq, Prod.mk.injEq] at h
    obtain ⟨rfl, rfl, rfl⟩ := h
    simp only [VR] at hv
    obtain ⟨fs, cs, e, h1, h2⟩ := hv
    exact ⟨fs, cs, h1, h2, e⟩
  · simp only [Option.some.injEq, Prod.mk.injEq] at h
    obtain ⟨rfl, rfl, rfl⟩ := h
    simp only [VR] at hv
    subst hv
    exact ⟨_, _, VRs.lits _, VRs.lits _, rfl⟩
  · simp only [Option.some.injEq, Prod.mk.injEq] at h
    obtain ⟨rfl, rfl, rfl⟩ := h
    simp only [VR] at hv
    obtain ⟨l, h1, h2⟩ := hv
    exact ⟨#[], #[], by simp [VRs], by simp [VRs], l, h1, h2, rfl, rfl⟩
  · cases h

def toRes : Option (AV × Mem) → Option ORes
  | some (v, M) => some (.val v M)
  | none => none

def opC (E : Env) (callF : CallF) (M : Mem) (F : T AV) (o : Oper) : Option ORes :=
  match o.op with
  | .panic x => match opd F x with
    | .iface t v => some (.pan [(.iface t v, false)] M)
    | .lit (.iface t v) => some (.pan [(.lit (.iface t v), false)] M)
    | _ => none
  | .defer c => match c.callee with
    | .value x => match closA (opd F x) with
      | some (f, first, cap) => some (.dfr ⟨f, first ++ c.args.toList.map (opd F), cap, none⟩)
      | none => none
    | _ => none
  | .call c => match c.callee with
    | .builtin _ => toRes (opA E M F o)
    | .value (.func f) => match E.ext.get f with
      | some _ => toRes (opA E M F o)
      | none => resOf (callF (.fn f) (c.args.toList.map (opd F)) M)
    | .value x => match calA (opd F x) with
      | some (f, first, cap) => resOf (callF f (first ++ c.args.toList.map (opd F) ++ cap) M)
      | none => none
    | .invoke .. => none
  | _ => toRes (opA E M F o)

def OPost (E : Env) (base : Nat) (ρ : Place) (w : World) (M : Mem) (o : Oper) (a : Act) (K : Act → World → Prop) (Q : Exit → Act → World → Prop) : ORes → Prop
  | .val v M' => ∀ ρ' x w', Step E base ρ w M ρ' w' M' → VR ρ' v x → K (a.put o.dst x) w'
  | .pan ch M' => ∀ ρ' chain w', Step E base ρ w M ρ' w' M' → CR ρ' ch chain → Q (.panic chain) a w'
  | .dfr d => ∀ dd, DR1 ρ d dd → K ({ a with defers := dd :: a.defers }.put o.dst undef) w

/-- What is asked of an operation; rounds come of yields alone. -/
def Up (P : Program) (o : Oper) (a : Act) (K : Act → World → Prop) (Q : Exit → Act → World → Prop) (w : World) (ry : Prop) : Prop :=
  o.uponIn Fence.wide 0 P a K Q ((execOp a.eval o).run P w) ∧ (¬ ry → ∀ l f t as bd w', (execOp a.eval o).run P w ≠ .ok (.round l f t as bd) w')

theorem upon_W {P : Program} {o : Oper} {a : Act} {K : Act → World → Prop} {Q : Exit → Act → World → Prop} {r : Option Nat} {x : Result Next} (h : o.uponIn Fence.wide 0 P a K Q x) : o.uponIn (W r) 0 P a K Q x := by
  cases x with
  | ok n w' => cases n <;> exact h
  | halt y w' => cases y <;> exact h

theorem Up.wpIn {P : Program} {o : Oper} {a : Act} {K : Act → World → Prop} {Q : Exit → Act → World → Prop} {w : World} {ry : Prop} {r : Option Nat} (h : Up P o a K Q w ry) (hd : ∀ c, o.op = .defer c → r = none) : o.wpIn (W r) 0 P a w K Q := by
  refine ⟨fun _ _ => trivial, ?_⟩
  have e : o.semAt (W r).round a.eval = execOp a.eval o := by
    cases r with
    | none => rfl
    | some l => exact Oper.semAt_eq _ _ _ fun c hc => by have := hd c hc; cases this
  rw [e]
  exact upon_W h.1

theorem Up.wp {P : Program} {o : Oper} {a : Act} {K : Act → World → Prop} {Q : Exit → Act → World → Prop} {w : World} {ry : Prop} (h : Up P o a K Q w ry) (hn : ¬ ry) : o.wp P a w K Q := by
  obtain ⟨h1, h2⟩ := h
  have h2 := h2 hn
  unfold Oper.wp
  generalize (execOp a.eval o).run P w = x at h1 h2
  cases x with
  | ok n w' => cases n with
    | enter f args => exact callsIn_wide.1 h1.2
    | row row args => exact fun c cs => let ⟨v, w'', k1, k2⟩ := h1.2 c cs (room_wide _); ⟨v, w'', k1, stepsIn_wide.1 k2⟩
    | round => exact (h2 _ _ _ _ _ _ rfl).elim
    | _ => exact h1
  | halt y w' => cases y <;> exact h1

theorem Up.value {P : Program} {o : Oper} {a : Act} {K : Act → World → Prop} {Q : Exit → Act → World → Prop} {w w' : World} {ry : Prop} {x : Value} (h : (execOp a.eval o).run P w = .ok (.value x) w') (hk : K (a.put o.dst x) w') : Up P o a K Q w ry := by
  unfold Up
  rw [h]
  exact ⟨hk, fun _ _ _ _ _ _ _ e => by cases e⟩

theorem Up.skip {P : Program} {o : Oper} {a : Act} {K : Act → World → Prop} {Q : Exit → Act → World → Prop} {w w' : World} {ry : Prop} (h : (execOp a.eval o).run P w = .ok .skip w') (hk : K (a.put o.dst undef) w') : Up P o a K Q w ry := by
  unfold Up
  rw [h]
  exact ⟨hk, fun _ _ _ _ _ _ _ e => by cases e⟩

theorem Up.halted {P : Program} {o : Oper} {a : Act} {K : Act → World → Prop} {Q : Exit → Act → World → Prop} {w w' : World} {ry : Prop} {x : Value} (h : (execOp a.eval o).run P w = .halt (.panic x) w') (hk : Q (.panic [{ v := x, recovered := false }]) a w') : Up P o a K Q w ry := by
  unfold Up
  rw [h]
  exact ⟨hk, fun _ _ _ _ _ _ _ e => by cases e⟩

theorem Up.deferred {P : Program} {o : Oper} {a : Act} {K : Act → World → Prop} {Q : Exit → Act → World → Prop} {w w' : World} {ry : Prop} {d : Deferred} (h : (execOp a.eval o).run P w = .ok (.defer d) w') (hk : K ({ a with defers := d :: a.defers }.put o.dst undef) w') : Up P o a K Q w ry := by
  unfold Up
  rw [h]
  exact ⟨hk, fun _ _ _ _ _ _ _ e => by cases e⟩

theorem defer_run {P : Program} {ρ : Operand → Value} {o : Oper} {c : Call} (ho : o.op = .defer c) {w w' : World} {x : Value} (h : (execOp ρ o).run P w = .ok (.value x) w') : False := by
  unfold execOp at h
  simp only [ho, Sem.run_bind] at h
  generalize (resolve ρ c o.type).run P w = y at h
  cases y with
  | ok d w1 => simp at h
  | halt z w1 => simp at h

theorem wpIn_value {P : Program} {o : Oper} {a : Act} {K : Act → World → Prop} {Q : Exit → Act → World → Prop} {w w' : World} {r : Option Nat} {x : Value} (h : (execOp a.eval o).run P w = .ok (.value x) w') (hk : K (a.put o.dst x) w') : o.wpIn (W r) 0 P a w K Q :=
  Up.wpIn (ry := False) (Up.value h hk) fun _ hc => (defer_run hc h).elim

theorem toRes_ok {E : Env} (OK : E.OK) {base : Nat} {ρ : Place} {M : Mem} {w : World} (hc : Cons E base ρ M w) (hbase : base ≤ w.heap.size) {F : T AV} {n : Nat} {a : Act} (hf : FR ρ F n a) {o : Oper} {r : ORes} {ry : Prop}
    (h : toRes (opA E M F o) = some r) {K : Act → World → Prop} {Q : Exit → Act → World → Prop} (hp : OPost E base ρ w M o a K Q r) : Up E.P o a K Q w ry := by
  unfold toRes at h
  split at h
  · rename_i v M' hv
    simp only [Option.some.injEq] at h
    subst h
    obtain ⟨x, w', ρ', h1, h2, h3⟩ := opA_ok OK hc hbase hf hv
    have hk := hp ρ' x w' h3 h2
    rcases h1 with h1 | ⟨h1, rfl⟩
    · exact Up.value h1 hk
    · exact Up.skip h1 hk
  · cases h

/-- Some yield is answered. -/
def Yields1 (callF : CallF) : Prop := ∃ b args M x, callF (.yld b) args M = some x

theorem call_upon {E : Env} {base : Nat} {callF : CallF} (hs : SoundCall E base callF) {ρ : Place} {M : Mem} {w : World} (hc : Cons E base ρ M w) (hbase : base ≤ w.heap.size) {a : Act} {o : Oper} {r : ORes}
    {f : Cal} {args : List AV} {vals : Array Value} (hargs : VRs ρ args vals.toList) (h : resOf (callF f args M) = some r) {K : Act → World → Prop} {Q : Exit → Act → World → Prop} (hp : OPost E base ρ w M o a K Q r)
    (hrun : match f with
      | .fn f => (execOp a.eval o).run E.P w = .ok (.enter f vals) w
      | .yld b => ∃ l, ρ b = some l ∧ (execOp a.eval o).run E.P w = (Instr.yield l.blk vals).run E.P w) : Up E.P o a K Q w (Yields1 callF) := by
  have hdep : Fence.wide.depth.isSome = true → 1 ≤ 0 := fun h => by simp [Fence.wide] at h
  have hgo : ∃ x M', callF f args M = some (x, M') ∧ ∀ e w', (∃ ρ', Step E base ρ w M ρ' w' M' ∧ EndR ρ' x e) → (match e with
      | .returned v => K (a.put o.dst v) w'
      | .panicked chain => Q (.panic chain) a w'
      | .outgrown => LetsOut Q) := by
    unfold resOf at h
    split at h
    · rename_i v M' hv
      simp only [Option.some.injEq] at h
      subst h
      refine ⟨_, _, hv, fun e w' he => ?_⟩
      obtain ⟨ρ', h1, h2⟩ := he
      cases e with
      | returned x => exact hp ρ' x w' h1 h2
      | panicked c => exact h2.elim
      | outgrown => exact h2.elim
    · rename_i ch M' hv
      simp only [Option.some.injEq] at h
      subst h
      refine ⟨_, _, hv, fun e w' he => ?_⟩
      obtain ⟨ρ', h1, h2⟩ := he
      cases e with
      | returned x => exact h2.elim
      | panicked c => exact hp ρ' c w' h1 h2
      | outgrown => exact h2.elim
    · cases h
  obtain ⟨x, M', hv, hpost⟩ := hgo
  have hS := hs f args M _ M' hv ρ w vals.toList hc hbase hargs
  rw [Array.toArray_toList] at hS
  cases f with
  | fn f =>
    simp only [] at hrun
    unfold Up
    rw [hrun]
    refine ⟨?_, fun _ _ _ _ _ _ _ e => by cases e⟩
    rw [Oper.uponIn_enter]
    refine ⟨hdep, callsIn_wide.2 (Calls.mono hS fun e w' he => ?_)⟩
    have := hpost e w' he
    cases e <;> exact this
  | yld b =>
    simp only [] at hrun
    obtain ⟨l, hl, hrun⟩ := hrun
    obtain ⟨fn, tmps, assign, body, h1, h2⟩ := hS l hl
    unfold Up
    rw [hrun, h1]
    refine ⟨?_, fun hn => absurd ⟨b, args, M, _, hv⟩ hn⟩
    rw [Oper.uponIn_round]
    refine ⟨hdep, RoundIn.mono h2 fun e w' he => ?_⟩
    have := hpost e w' he
    cases e <;> exact this

/-- A function of the dump is entered. -/
def Env.enters (E : Env) (f : FuncId) : Bool :=
  match E.fn.get f with
  | some _ => true
  | none => false

theorem opC_ok {E : Env} (OK : E.OK) {base : Nat} {callF : CallF} (hs : SoundCall E base callF) (hent : ∀ f args M x, callF (.fn f) args M = some x → ∃ fn, E.fn.get f = some fn)
    {ρ : Place} {M : Mem} {w : World} (hc : Cons E base ρ M w) (hbase : base ≤ w.heap.size) {F : T AV} {n : Nat} {a : Act} (hf : FR ρ F n a) {o : Oper} {r : ORes}
    (h : opC E callF M F o = some r) {K : Act → World → Prop} {Q : Exit → Act → World → Prop} (hp : OPost E base ρ w M o a K Q r) : Up E.P o a K Q w (Yields1 callF) := by
  have entered : ∀ f args r, resOf (callF (.fn f) args M) = some r → ∀ vals w, (callFunc f vals).run E.P w = .ok (.enter f vals) w := by
    intro f args r hr vals w
    have : ∃ x, callF (.fn f) args M = some x := by
      unfold resOf at hr
      split at hr
      · exact ⟨_, by assumption⟩
      · exact ⟨_, by assumption⟩
      · cases hr
    obtain ⟨x, hx⟩ := this
    obtain ⟨fn, hfn⟩ := hent f args M x hx
    exact (OK.fn f fn hfn).2 vals w
  unfold opC at h
  split at h
  · -- panic
    rename_i x ho
    have hv := hf.eval x
    split at h
    · rename_i t v hx
      simp only [Option.some.injEq] at h
      subst h
      rw [hx] at hv
      have hv0 := hv
      simp only [VR] at hv
      obtain ⟨y, e, hy⟩ := hv
      have := hp ρ [{ v := a.eval x, recovered := false }] w (Step.refl hc) (by simp only [CR]; exact ⟨_, _, rfl, hv0, rfl⟩)
      rw [e] at this
      refine Up.halted ?_ this
      unfold execOp
      simp only [ho, e, Instr.panic, goPanic, Sem.run_bind, Sem.run_halt, Result.andThen_halt]
    · rename_i t v hx
      simp only [Option.some.injEq] at h
      subst h
      rw [hx] at hv
      have hv0 := hv
      simp only [VR] at hv
      have := hp ρ [{ v := a.eval x, recovered := false }] w (Step.refl hc) (by simp only [CR]; exact ⟨_, _, rfl, hv0, rfl⟩)
      rw [hv] at this
      refine Up.halted ?_ this
      unfold execOp
      simp only [ho, hv, Instr.panic, goPanic, Sem.run_bind, Sem.run_halt, Result.andThen_halt]
    · cases h
  · -- defer
    rename_i c ho
    split at h
    · rename_i x hcal
      split at h
      · rename_i f first cap hx
        simp only [Option.some.injEq] at h
        subst h
        obtain ⟨fs, cs, e, h1, h2⟩ := closA_ok (hf.eval x) hx
        have := hp { target := .fn (.func f) cs, args := fs ++ c.args.map a.eval } ⟨cs, rfl, h2, by simpa using h1.append (hf.evals c.args.toList)⟩
        refine Up.deferred ?_ this
        unfold execOp
        simp only [ho, resolve, hcal, e, Deferred.ofValue, Sem.run_bind, Sem.run_pure, Result.andThen_ok]
      · cases h
    · cases h
  · -- call
    rename_i c ho
    split at h
    · exact toRes_ok OK hc hbase hf h hp
    · rename_i f hcal
      split at h
      · exact toRes_ok OK hc hbase hf h hp
      · refine call_upon hs hc hbase (f := .fn f) (vals := c.args.map a.eval) (by simpa using hf.evals c.args.toList) h hp ?_
        rw [exec_func ho hcal rfl]
        exact entered f _ _ h _ w
    · rename_i x hne hcal
      split at h
      · rename_i f first cap hx
        obtain ⟨fs, cs, h1, h2, e⟩ := calA_ok (hf.eval x) hx
        refine call_upon hs hc hbase (f := f) (vals := fs ++ c.args.map a.eval ++ cs) (by simpa using (h1.append ((hf.evals c.args.toList).append h2))) (by simpa [List.append_assoc] using h) hp ?_
        cases f with
        | fn f =>
          simp only [] at e
          have hent' := entered f _ _ h (fs ++ c.args.map a.eval ++ cs) w
          unfold execOp
          simp only [ho, resolve, hcal, e, Deferred.ofValue, Sem.run_bind, Sem.run_pure, Result.andThen_ok, invoke]
          exact hent'
        | yld b =>
          simp only [] at e
          obtain ⟨l, hl, e, rfl, rfl⟩ := e
          refine ⟨l, hl, ?_⟩
          unfold execOp
          simp only [ho, resolve, hcal, e, Deferred.ofValue, Sem.run_bind, Sem.run_pure, Result.andThen_ok, invoke]
          simp
      · cases h
    · cases h
  · exact toRes_ok OK hc hbase hf h hp

theorem opC_val {E : Env} {callF : CallF} {M : Mem} {F : T AV} {o : Oper} {v : AV} {M' : Mem} (h : opC E callF M F o = some (.val v M')) : ∀ c, o.op ≠ .defer c := by
  intro c ho
  unfold opC at h
  rw [ho] at h
  simp only [] at h
  split at h
  · split at h <;> simp at h
  · cases h

theorem opC_pan {E : Env} {callF : CallF} {M : Mem} {F : T AV} {o : Oper} {ch : AChain} {M' : Mem} (h : opC E callF M F o = some (.pan ch M')) : ∀ c, o.op ≠ .defer c := by
  intro c ho
  unfold opC at h
  rw [ho] at h
  simp only [] at h
  split at h
  · split at h <;> simp at h
  · cases h

/-! The state of a frame, and operations in the order of the text. -/

structure St where
  F : T AV
  D : List AD
  M : Mem
  rd : Option Nat

/-- The loop of whose rounds this is one. -/
def RR (ρ : Place) : Option Nat → Option Nat → Prop
  | none, none => True
  | some b, some l => ∃ lc, ρ b = some lc ∧ lc.blk = l
  | _, _ => False

theorem RR.mono {ρ ρ' : Place} (h : ρ.le ρ') {x y : Option Nat} (e : RR ρ x y) : RR ρ' x y := by
  cases x <;> cases y <;> first | exact e | (obtain ⟨lc, h1, h2⟩ := e; exact ⟨lc, h _ _ h1, h2⟩)

inductive AExit where
  | normal
  | exit (id : Nat)
  | goto (l : Nat)
  | ret
  | panic (ch : AChain)

def XR (ρ : Place) : AExit → Exit → Prop
  | .normal, .normal => True
  | .exit i, .exit j => i = j
  | .goto i, .goto j => i = j
  | .ret, .ret => True
  | .panic ch, .panic c => CR ρ ch c
  | _, _ => False

structure SR (E : Env) (base : Nat) (rd : Option Nat) (ρ : Place) (s : St) (n : Nat) (a : Act) (w : World) : Prop where
  cons : Cons E base ρ s.M w
  fr : FR ρ s.F n a
  dr : DR ρ s.D a.defers
  base : base ≤ w.heap.size
  rd : RR ρ s.rd rd

/-- Is the operation run, by its guard? -/
def wantA (ops : Array Oper) (F : T AV) (o : Oper) : Option Bool :=
  match o.guard with
  | none => some true
  | some (j, want) => match ops[j]? with
    | some p => match p.dst with
      | some t => match F.get t with
        | some (.lit (.bool b)) => some (b == want)
        | some (.lit (.tuple _)) => some false
        | _ => none
      | none => none
    | none => none

theorem wantA_ok {ρ : Place} {ops : Array Oper} {F : T AV} {n : Nat} {a : Act} (hf : FR ρ F n a) {o : Oper} {b : Bool} (h : wantA ops F o = some b) : Region.wanted o (yielded ops a.tmps) = b := by
  unfold wantA at h
  unfold Region.wanted
  split at h
  · rename_i hg
    simp only [Option.some.injEq] at h
    subst h
    simp only [hg]
  · rename_i j want hg
    simp only [hg]
    split at h
    · rename_i p hp
      split at h
      · rename_i t ht
        have hv := hf.get t
        simp only [opd] at hv
        have hy : ∀ v, a.tmps.getD t undef = v → v ≠ undef → a.tmps[t]? = some v := by
          intro v e hne
          rw [Array.getD_eq_getD_getElem?] at e
          cases hq : a.tmps[t]? with
          | none => rw [hq] at e; exact absurd e.symm (by simpa using hne)
          | some u => rw [hq] at e; simpa using e
        split at h
        · rename_i c hF
          simp only [Option.some.injEq] at h
          rw [hF] at hv
          simp only [VR] at hv
          have := hy _ hv (by simp [undef])
          subst h
          simp only [yielded, hp, Option.bind_some, ht, this]
          cases c <;> cases want <;> rfl
        · rename_i vs hF
          simp only [Option.some.injEq] at h
          rw [hF] at hv
          simp only [VR] at hv
          subst h
          have : yielded ops a.tmps j = none := by
            simp only [yielded, hp, Option.bind_some, ht]
            rw [Array.getD_eq_getD_getElem?] at hv
            cases hq : a.tmps[t]? with
            | none => rfl
            | some u => rw [hq] at hv; simp at hv; subst hv; rfl
          rw [this]
          cases want <;> rfl
        · cases h
      · cases h
    · cases h

/-- The operations with these numbers, in this order. -/
def opsA (E : Env) (callF : CallF) (n : Nat) (ops : Array Oper) : List Nat → St → Option (AExit × St)
  | [], s => some (.normal, s)
  | i :: r, s => match ops[i]? with
    | none => none
    | some o => match wantA ops s.F o with
      | none => none
      | some false => match put s.F n o.dst (.lit undef) with
        | some F' => opsA E callF n ops r { s with F := F' }
        | none => none
      | some true => match opC E callF s.M s.F o with
        | none => none
        | some (.val v M') => match put s.F n o.dst v with
          | some F' => opsA E callF n ops r { s with F := F', M := M' }
          | none => none
        | some (.pan ch M') => some (.panic ch, { s with M := M' })
        | some (.dfr d) => match s.rd with
          | some _ => none
          | none => match put s.F n o.dst (.lit undef) with
            | some F' => opsA E callF n ops r { s with F := F', D := d :: s.D }
            | none => none

/-- What must hold behind a piece of code. -/
def Behind (E : Env) (base : Nat) (rd : Option Nat) (ρ : Place) (w : World) (M : Mem) (n : Nat) (x : AExit) (s' : St) (Q : Exit → Act → World → Prop) : Prop :=
  ∀ ρ' a' w' e, Step E base ρ w M ρ' w' s'.M → SR E base rd ρ' s' n a' w' → XR ρ' x e → Q e a' w'

theorem Behind.step {E : Env} {base : Nat} {rd : Option Nat} {ρ ρ' : Place} {w w' : World} {M M' : Mem} {n : Nat} {x : AExit} {s' : St} {Q : Exit → Act → World → Prop} (h : Behind E base rd ρ w M n x s' Q)
    (k : Step E base ρ w M ρ' w' M') : Behind E base rd ρ' w' M' n x s' Q :=
  fun _ a'' w'' e h1 h2 h3 => h _ a'' w'' e (k.trans h1) h2 h3

theorem put_defers (a : Act) (dst : Option Tmp) (v : Value) : (a.put dst v).defers = a.defers := by cases dst <;> rfl

theorem opsA_ok {E : Env} (OK : E.OK) {base : Nat} {rd : Option Nat} {callF : CallF} (hs : SoundCall E base callF) (hent : ∀ f args M x, callF (.fn f) args M = some x → ∃ fn, E.fn.get f = some fn) {n : Nat} {ops : Array Oper}
    {Q : Exit → Act → World → Prop} : ∀ (l : List Nat) (s : St) (x : AExit) (s' : St), opsA E callF n ops l s = some (x, s') → ∀ (ρ : Place) (a : Act) (w : World), SR E base rd ρ s n a w →
      Behind E base rd ρ w s.M n x s' Q → wpOpsIn (W rd) 0 E.P ops Q l a w
  | [], s, x, s', h, ρ, a, w, hr, hb => by
    simp only [opsA, Option.some.injEq, Prod.mk.injEq] at h
    obtain ⟨rfl, rfl⟩ := h
    exact hb ρ a w .normal (Step.refl hr.cons) hr trivial
  | i :: r, s, x, s', h, ρ, a, w, hr, hb => by
    simp only [opsA] at h
    split at h
    · cases h
    · rename_i o ho
      simp only [wpOpsIn, ho]
      split at h
      · cases h
      · rename_i hw
        rw [wantA_ok hr.fr hw]
        simp only [Bool.false_eq_true, if_false]
        split at h
        · rename_i F' hF
          exact ⟨fun _ _ => trivial, opsA_ok OK hs hent r _ x s' h ρ _ w ⟨hr.cons, hr.fr.put (by simp [VR]) hF, by rw [put_defers]; exact hr.dr, hr.base, hr.rd⟩ hb⟩
        · cases h
      · rename_i hw
        rw [wantA_ok hr.fr hw]
        simp only [if_true]
        split at h
        · cases h
        · rename_i v M' hv
          split at h
          · rename_i F' hF
            refine Up.wpIn (opC_ok OK hs hent hr.cons hr.base hr.fr hv fun ρ' y w' h1 h2 => ?_) fun c hc => absurd hc (opC_val hv c)
            exact opsA_ok OK hs hent r _ x s' h ρ' _ w' ⟨h1.cons, (hr.fr.mono h1.ext).put h2 hF, by rw [put_defers]; exact hr.dr.mono h1.ext, Nat.le_trans hr.base h1.size, hr.rd.mono h1.ext⟩ (hb.step h1)
          · cases h
        · rename_i ch M' hv
          simp only [Option.some.injEq, Prod.mk.injEq] at h
          obtain ⟨rfl, rfl⟩ := h
          refine Up.wpIn (opC_ok OK hs hent hr.cons hr.base hr.fr hv fun ρ' chain w' h1 h2 => ?_) fun c hc => absurd hc (opC_pan hv c)
          exact hb ρ' a w' (.panic chain) h1 ⟨h1.cons, hr.fr.mono h1.ext, hr.dr.mono h1.ext, Nat.le_trans hr.base h1.size, hr.rd.mono h1.ext⟩ h2
        · rename_i d hv
          split at h
          · cases h
          · rename_i hrd
            split at h
            · rename_i F' hF
              have hnone : rd = none := by
                have := hr.rd
                rw [hrd] at this
                cases rd with
                | none => rfl
                | some l => exact this.elim
              refine Up.wpIn (opC_ok OK hs hent hr.cons hr.base hr.fr hv fun dd h1 => ?_) fun _ _ => hnone
              have hfr : FR ρ s.F n { a with defers := dd :: a.defers } := ⟨hr.fr.size, hr.fr.get⟩
              refine opsA_ok OK hs hent r _ x s' h ρ _ w ⟨hr.cons, hfr.put (by simp [VR]) hF, ?_, hr.base, hr.rd⟩ hb
              rw [put_defers]
              exact ⟨dd, a.defers, rfl, h1, hr.dr⟩
            · cases h

end Go.Proofs.YtiamenedboifeabGreatDoor.Rx

/- A reflective evaluator of the model's code, part P: code, calls, deferred calls; the evaluator, and that it is sound. -/
import Derived.Test.YtgfhmhpidijdoaaGreatDoorRxO
namespace Go.Proofs.YtgfhmhpidijdoaaGreatDoor.Rx

/-! What code stands in. -/

inductive Ctx where
  | top
  | scope (b : Code)
  | loop (b : Code)

abbrev CodeF := Ctx → Nat → Code → St → Option (AExit × St)

def codeTop (E : Env) (callF : CallF) (rc : CodeF) (n : Nat) (c : Code) (s : St) : Option (AExit × St) :=
  match c with
  | .skip => some (.normal, s)
  | .label _ => some (.normal, s)
  | .region _ ops true => drawA E callF n ops s
  | .region _ ops false => opsA E callF n ops (List.range ops.size) s
  | .seq a b => match rc .top n a s with
    | some (.normal, s1) => rc .top n b s1
    | r => r
  | .cond c a b => match opd s.F c with
    | .lit (.bool true) => rc .top n a s
    | .lit (.bool false) => rc .top n b s
    | _ => none
  | .block id b => match rc .top n b s with
    | some (.exit i, s1) => cond (Nat.beq i id) (some (.normal, s1)) (some (.exit i, s1))
    | r => r
  | .loop b => rc (.loop b) n b s
  | .scope b => rc (.scope b) n b s
  | .exit id => some (.exit id, s)
  | .goto l => some (.goto l, s)
  | .ret => some (.ret, s)
  | _ => none

def codeStep (E : Env) (callF : CallF) (rc : CodeF) (ctx : Ctx) (n : Nat) (c : Code) (s : St) : Option (AExit × St) :=
  match ctx with
  | .top => codeTop E callF rc n c s
  | .scope b => match rc .top n c s with
    | some (.goto l, s1) => match findLabel b l with
      | some rest => rc (.scope b) n rest s1
      | none => some (.goto l, s1)
    | r => r
  | .loop b => match rc .top n c s with
    | some (.normal, s1) => rc (.loop b) n b s1
    | r => r

def Ctx.items : Ctx → List Item
  | .top => []
  | .scope b => [.inScope b]
  | .loop b => [.inLoop b]

/-- The code, in what it stands in. -/
def wpIn (P : Program) (ctx : Ctx) (c : Code) (Q : Exit → Act → World → Prop) (a : Act) (w : World) : Prop :=
  ∀ (b : Frame) (k : List Item) (cs : List Frame), ∃ e a' w', Q e a' w' ∧ Arrives P (lone (b.at a (.code c :: (ctx.items ++ k))) cs w) b k cs e a' w'

theorem wpIn_top {P : Program} {c : Code} {Q : Exit → Act → World → Prop} {a : Act} {w : World} : wpIn P .top c Q a w ↔ c.wp P Q a w := Iff.rfl

def SoundCode (E : Env) (base : Nat) (rc : CodeF) : Prop :=
  ∀ ctx n c s x s', rc ctx n c s = some (x, s') → ∀ (Q : Exit → Act → World → Prop) ρ a w, SR E base ρ s n a w → Behind E base ρ w s.M n x s' Q → wpIn E.P ctx c Q a w

theorem wp_loop_in {P : Program} {b : Code} {Q : Exit → Act → World → Prop} {a : Act} {w : World} (h : wpIn P (.loop b) b Q a w) : (Code.loop b).wp P Q a w := by
  intro fr k cs
  obtain ⟨e, a', w', q, r⟩ := h fr k cs
  exact ⟨e, a', w', q, .of_steps (.one step_loop) r⟩

theorem wp_scope_in {P : Program} {b : Code} {Q : Exit → Act → World → Prop} {a : Act} {w : World} (h : wpIn P (.scope b) b Q a w) : (Code.scope b).wp P Q a w := by
  intro fr k cs
  obtain ⟨e, a', w', q, r⟩ := h fr k cs
  exact ⟨e, a', w', q, .of_steps (.one step_scope) r⟩

theorem wpIn_loop {P : Program} {body c : Code} {Q : Exit → Act → World → Prop} {a : Act} {w : World} (h : c.wp P (Exit.then (wpIn P (.loop body) body Q) Q) a w) : wpIn P (.loop body) c Q a w := by
  intro b k cs
  obtain ⟨e, a₁, w₁, hq, harr⟩ := h b (.inLoop body :: k) cs
  cases e with
  | normal =>
    obtain ⟨e₂, a₂, w₂, hq₂, harr₂⟩ := hq b k cs
    exact ⟨e₂, a₂, w₂, hq₂, .of_steps (Steps.trans harr (.one step_inLoop)) harr₂⟩
  | exit id => exact ⟨_, a₁, w₁, hq, .pass (x := .inLoop body) rfl (fun _ _ => .inl (by simp)) harr⟩
  | goto l => exact ⟨_, a₁, w₁, hq, .pass (x := .inLoop body) rfl (fun _ _ => .inl (by simp)) harr⟩
  | ret => exact ⟨_, a₁, w₁, hq, .pass (x := .inLoop body) rfl (fun _ _ => .inl (by simp)) harr⟩
  | panic ch => exact ⟨_, a₁, w₁, hq, .pass (x := .inLoop body) rfl (fun _ _ => .inl (by simp)) harr⟩
  | outgrown => exact ⟨_, a₁, w₁, hq, .pass (x := .inLoop body) rfl (fun _ _ => .inl (by simp)) harr⟩

def scopeQ (P : Program) (body : Code) (Q : Exit → Act → World → Prop) : Exit → Act → World → Prop
  | .goto l, a, w => match findLabel body l with
    | some rest => wpIn P (.scope body) rest Q a w
    | none => Q (.goto l) a w
  | e, a, w => Q e a w

theorem wpIn_scope {P : Program} {body c : Code} {Q : Exit → Act → World → Prop} {a : Act} {w : World} (h : c.wp P (scopeQ P body Q) a w) : wpIn P (.scope body) c Q a w := by
  intro b k cs
  obtain ⟨e, a₁, w₁, hq, harr⟩ := h b (.inScope body :: k) cs
  cases e with
  | normal => exact ⟨.normal, a₁, w₁, hq, Steps.trans harr (.one step_inScope)⟩
  | exit id => exact ⟨.exit id, a₁, w₁, hq, fun k' hk => harr k' (by simp [exitTo, hk])⟩
  | goto l =>
    simp only [scopeQ] at hq
    split at hq
    · rename_i rest hrest
      obtain ⟨e₂, a₂, w₂, hq₂, harr₂⟩ := hq b k cs
      exact ⟨e₂, a₂, w₂, hq₂, .of_steps (harr (.code rest :: .inScope body :: k) (by simp [gotoIn, hrest])) harr₂⟩
    · rename_i hrest
      exact ⟨.goto l, a₁, w₁, hq, fun k' hk => harr k' (by simp [gotoIn, hrest, hk])⟩
  | ret => exact ⟨.ret, a₁, w₁, hq, harr⟩
  | panic ch => exact ⟨.panic ch, a₁, w₁, hq, harr⟩
  | outgrown => exact ⟨.outgrown, a₁, w₁, hq, harr⟩

theorem codeTop_ok {E : Env} (OK : E.OK) {base : Nat} {callF : CallF} (hs : SoundCall E base callF) (hent : ∀ f args M x, callF f args M = some x → ∃ fn, E.fn.get f = some fn) {rc : CodeF} (hc : SoundCode E base rc)
    {n : Nat} {c : Code} {s s' : St} {x : AExit} (h : codeTop E callF rc n c s = some (x, s')) {Q : Exit → Act → World → Prop} {ρ : Place} {a : Act} {w : World} (hr : SR E base ρ s n a w) (hb : Behind E base ρ w s.M n x s' Q) : c.wp E.P Q a w := by
  unfold codeTop at h
  split at h
  · simp only [Option.some.injEq, Prod.mk.injEq] at h
    obtain ⟨rfl, rfl⟩ := h
    exact wp_skip (hb ρ a w .normal (Step.refl hr.cons) hr trivial)
  · simp only [Option.some.injEq, Prod.mk.injEq] at h
    obtain ⟨rfl, rfl⟩ := h
    exact wp_label (hb ρ a w .normal (Step.refl hr.cons) hr trivial)
  · -- an open region
    refine wp_region_any OK.mixed ?_
    have hst : Step E base ρ w s.M ρ { w with drawn := w.drawn + 1 } s.M := Step.drawn hr.cons rfl rfl rfl rfl
    exact drawA_ok OK hs hent h ⟨hst.cons, hr.fr, hr.dr, hr.base⟩ (hb.step hst)
  · exact wp_region (opsA_ok OK hs hent _ s x s' h ρ a w hr hb)
  · rename_i c1 c2
    refine wp_seq ?_
    split at h
    · rename_i s1 h1
      refine hc .top n c1 s _ s1 h1 _ ρ a w hr fun ρ' a' w' e k1 k2 k3 => ?_
      cases e with
      | normal => exact hc .top n c2 s1 x s' h Q ρ' a' w' k2 (hb.step k1)
      | _ => exact k3.elim
    · rename_i hne
      refine hc .top n c1 s x s' h _ ρ a w hr fun ρ' a' w' e k1 k2 k3 => ?_
      have := hb ρ' a' w' e k1 k2 k3
      cases e with
      | normal =>
        cases x with
        | normal => exact absurd h (hne s')
        | _ => exact k3.elim
      | _ => exact this
  · rename_i cc c1 c2
    have hv := hr.fr.eval cc
    split at h
    · rename_i ht
      rw [ht] at hv
      exact wp_cond_true hv (hc .top n c1 s x s' h Q ρ a w hr hb)
    · rename_i ht
      rw [ht] at hv
      exact wp_cond_false hv (hc .top n c2 s x s' h Q ρ a w hr hb)
    · cases h
  · rename_i id c1
    refine wp_block ?_
    split at h
    · rename_i i s1 h1
      refine hc .top n c1 s _ s1 h1 _ ρ a w hr fun ρ' a' w' e k1 k2 k3 => ?_
      cases e with
      | exit j =>
        have hij : i = j := k3
        subst hij
        cases hbq : Nat.beq i id with
        | true =>
          rw [hbq] at h
          simp only [cond_true, Option.some.injEq, Prod.mk.injEq] at h
          obtain ⟨rfl, rfl⟩ := h
          have : i = id := Nat.eq_of_beq_eq_true hbq
          simp only [Exit.inBlock, this, if_true]
          exact hb ρ' a' w' .normal k1 k2 trivial
        | false =>
          rw [hbq] at h
          simp only [cond_false, Option.some.injEq, Prod.mk.injEq] at h
          obtain ⟨rfl, rfl⟩ := h
          have : i ≠ id := fun e => by subst e; simp at hbq
          simp only [Exit.inBlock, this, if_false]
          exact hb ρ' a' w' (.exit i) k1 k2 rfl
      | _ => exact k3.elim
    · rename_i hne
      refine hc .top n c1 s x s' h _ ρ a w hr fun ρ' a' w' e k1 k2 k3 => ?_
      have := hb ρ' a' w' e k1 k2 k3
      cases e with
      | exit j =>
        cases x with
        | exit i => exact absurd h (hne i s')
        | _ => exact k3.elim
      | _ => exact this
  · rename_i c1
    exact wp_loop_in (hc (.loop c1) n c1 s x s' h Q ρ a w hr hb)
  · rename_i c1
    exact wp_scope_in (hc (.scope c1) n c1 s x s' h Q ρ a w hr hb)
  · simp only [Option.some.injEq, Prod.mk.injEq] at h
    obtain ⟨rfl, rfl⟩ := h
    exact wp_exit (hb ρ a w (.exit _) (Step.refl hr.cons) hr rfl)
  · simp only [Option.some.injEq, Prod.mk.injEq] at h
    obtain ⟨rfl, rfl⟩ := h
    exact wp_goto (hb ρ a w (.goto _) (Step.refl hr.cons) hr rfl)
  · simp only [Option.some.injEq, Prod.mk.injEq] at h
    obtain ⟨rfl, rfl⟩ := h
    exact wp_ret (hb ρ a w .ret (Step.refl hr.cons) hr trivial)
  · cases h

theorem codeStep_ok {E : Env} (OK : E.OK) {base : Nat} {callF : CallF} (hs : SoundCall E base callF) (hent : ∀ f args M x, callF f args M = some x → ∃ fn, E.fn.get f = some fn) {rc : CodeF} (hc : SoundCode E base rc) :
    SoundCode E base (codeStep E callF rc) := by
  intro ctx n c s x s' h Q ρ a w hr hb
  cases ctx with
  | top => exact codeTop_ok OK hs hent hc h hr hb
  | scope b =>
    simp only [codeStep] at h
    refine wpIn_scope ?_
    split at h
    · rename_i l s1 h1
      refine hc .top n c s _ s1 h1 _ ρ a w hr fun ρ' a' w' e k1 k2 k3 => ?_
      cases e with
      | goto j =>
        have hij : l = j := k3
        subst hij
        split at h
        · rename_i rest hrest
          simp only [scopeQ, hrest]
          exact hc (.scope b) n rest s1 x s' h Q ρ' a' w' k2 (hb.step k1)
        · rename_i hrest
          simp only [Option.some.injEq, Prod.mk.injEq] at h
          obtain ⟨rfl, rfl⟩ := h
          simp only [scopeQ, hrest]
          exact hb ρ' a' w' (.goto l) k1 k2 rfl
      | _ => exact k3.elim
    · rename_i hne
      refine hc .top n c s x s' h _ ρ a w hr fun ρ' a' w' e k1 k2 k3 => ?_
      have := hb ρ' a' w' e k1 k2 k3
      cases e with
      | goto j =>
        cases x with
        | goto i => exact absurd h (hne i s')
        | _ => exact k3.elim
      | _ => exact this
  | loop b =>
    simp only [codeStep] at h
    refine wpIn_loop ?_
    split at h
    · rename_i s1 h1
      refine hc .top n c s _ s1 h1 _ ρ a w hr fun ρ' a' w' e k1 k2 k3 => ?_
      cases e with
      | normal => exact hc (.loop b) n b s1 x s' h Q ρ' a' w' k2 (hb.step k1)
      | _ => exact k3.elim
    · rename_i hne
      refine hc .top n c s x s' h _ ρ a w hr fun ρ' a' w' e k1 k2 k3 => ?_
      have := hb ρ' a' w' e k1 k2 k3
      cases e with
      | normal =>
        cases x with
        | normal => exact absurd h (hne s')
        | _ => exact k3.elim
      | _ => exact this

/-! Results. -/

def resOne (E : Env) (M : Mem) (F : T AV) : ResultVar → Option AV
  | .tmp t => some (opd F (.tmp t))
  | .cell a t => loadA E M t (opd F (.tmp a))

def resAll (E : Env) (M : Mem) (F : T AV) : List ResultVar → Option (List AV)
  | [] => some []
  | r :: rs => match resOne E M F r with
    | some v => match resAll E M F rs with
      | some l => some (v :: l)
      | none => none
    | none => none

def resultsA (E : Env) (M : Mem) (F : T AV) (fn : Func) : Option AV :=
  match resAll E M F fn.results.toList with
  | some [v] => some v
  | some l => some (.tuple l)
  | none => none

def resSem (tmps : Array Value) : ResultVar → Sem Value
  | .tmp t => pure (tmps.getD t undef)
  | .cell a t => do loadVar t (← asAddr (tmps.getD a undef))

theorem resAll_ok {E : Env} {base : Nat} {ρ : Place} {M : Mem} {w : World} (hc : Cons E base ρ M w) {F : T AV} {n : Nat} {a : Act} (hf : FR ρ F n a) : ∀ (l : List ResultVar) (vs : List AV), resAll E M F l = some vs →
    ∃ xs, (l.mapM (resSem a.tmps)).run E.P w = .ok xs w ∧ VRs ρ vs xs
  | [], vs, h => by
    simp only [resAll, Option.some.injEq] at h
    subst h
    exact ⟨[], rfl, by simp [VRs]⟩
  | r :: rs, vs, h => by
    simp only [resAll] at h
    split at h
    · rename_i v hv
      split at h
      · rename_i l hl
        simp only [Option.some.injEq] at h
        subst h
        obtain ⟨xs, h1, h2⟩ := resAll_ok hc hf rs l hl
        have : ∃ x, (resSem a.tmps r).run E.P w = .ok x w ∧ VR ρ v x := by
          cases r with
          | tmp t =>
            simp only [resOne, Option.some.injEq] at hv
            subst hv
            exact ⟨_, rfl, hf.get t⟩
          | cell c t =>
            simp only [resOne] at hv
            obtain ⟨y, k1, k2⟩ := loadA_ok hc (hf.get c) hv
            refine ⟨y, ?_, k2⟩
            simp only [resSem]
            generalize a.tmps.getD c undef = q at k1
            cases q with
            | pointer o =>
              cases o with
              | none => simp [Instr.loadAt, Instr.sureAddr, stuck] at k1
              | some ad => simpa [Instr.loadAt, Instr.sureAddr, asAddr] using k1
            | _ => simp [Instr.loadAt, Instr.sureAddr, stuck] at k1
        obtain ⟨x, k1, k2⟩ := this
        refine ⟨x :: xs, ?_, ?_⟩
        · rw [List.mapM_cons]
          simp only [Sem.run_bind, k1, Result.andThen_ok, h1, Sem.run_pure]
        · simp only [VRs]; exact ⟨x, xs, rfl, k2, h2⟩
      · cases h
    · cases h

theorem resultsA_ok {E : Env} {base : Nat} {ρ : Place} {M : Mem} {w : World} (hc : Cons E base ρ M w) {F : T AV} {n : Nat} {a : Act} (hf : FR ρ F n a) {fn : Func} {v : AV} (h : resultsA E M F fn = some v) :
    ∃ x, (results fn a.tmps).run E.P w = .ok x w ∧ VR ρ v x := by
  have hdef : results fn a.tmps = (do
      let vs ← fn.results.mapM (resSem a.tmps)
      pure (if h : vs.size = 1 then vs[0] else .tuple vs)) := by
    unfold results
    congr 1
  unfold resultsA at h
  have fin : ∀ l, resAll E M F fn.results.toList = some l → ∃ xs : List Value, (fn.results.mapM (resSem a.tmps)).run E.P w = .ok xs.toArray w ∧ VRs ρ l xs := by
    intro l hl
    obtain ⟨xs, h1, h2⟩ := resAll_ok hc hf _ l hl
    refine ⟨xs, ?_, h2⟩
    rw [Array.mapM_eq_mapM_toList]
    simp only [Sem.run_map, h1, Result.andThen_ok]
  split at h
  · rename_i u hu
    simp only [Option.some.injEq] at h
    subst h
    obtain ⟨xs, h1, h2⟩ := fin _ hu
    simp only [VRs] at h2
    obtain ⟨x, xs', rfl, h3, rfl⟩ := h2
    refine ⟨x, ?_, h3⟩
    rw [hdef]
    simp only [Sem.run_bind, h1, Result.andThen_ok, Sem.run_pure]
    simp
  · rename_i l hne hl
    simp only [Option.some.injEq] at h
    subst h
    obtain ⟨xs, h1, h2⟩ := fin _ hl
    have hlen := h2.length
    refine ⟨.tuple xs.toArray, ?_, by simp only [VR]; exact ⟨_, rfl, by simpa using h2⟩⟩
    rw [hdef]
    simp only [Sem.run_bind, h1, Result.andThen_ok, Sem.run_pure]
    have : ¬ xs.toArray.size = 1 := by
      intro e
      simp only [List.size_toArray] at e
      rw [e] at hlen
      obtain ⟨v, hv⟩ := List.length_eq_one_iff.1 hlen
      exact hne v hv
    rw [dif_neg this]
  · cases h

/-! Deferred calls. -/

inductive AMode where
  | ret
  | pan (ch : AChain)

def UR (ρ : Place) : AMode → FrameMode → Prop
  | .ret, .returning => True
  | .pan ch, .panicking c => CR ρ ch c
  | _, _ => False

theorem UR.mono {ρ ρ' : Place} (h : ρ.le ρ') {u : AMode} {m : FrameMode} (e : UR ρ u m) : UR ρ' u m := by
  cases u <;> cases m <;> first | exact e | exact CR.mono h e

def settleA : AMode → AMode
  | .pan ((_, true) :: _) => .ret
  | m => m

def raisedA (u : AMode) (ch : AChain) : AMode :=
  match u with
  | .pan old => .pan (ch ++ old)
  | .ret => .pan ch

theorem CR.drop {ρ : Place} : ∀ {a : AChain} {es : List PanicEntry}, CR ρ a es → es.dropWhile (!·.goexit) = []
  | [], _, e => by simp only [CR] at e; subst e; rfl
  | (v, b) :: r, es, e => by
    simp only [CR] at e
    obtain ⟨x, es', rfl, _, h3⟩ := e
    simp [CR.drop h3]

theorem CR.append {ρ : Place} : ∀ {a b : AChain} {es fs : List PanicEntry}, CR ρ a es → CR ρ b fs → CR ρ (a ++ b) (es ++ fs)
  | [], _, _, _, e, k => by simp only [CR] at e; subst e; exact k
  | (v, b) :: r, _, es, fs, e, k => by
    simp only [CR] at e
    obtain ⟨x, es', rfl, h2, h3⟩ := e
    simp only [List.cons_append, CR]
    exact ⟨x, _, rfl, h2, CR.append h3 k⟩

theorem settleA_ok {ρ : Place} {u : AMode} {m : FrameMode} (h : UR ρ u m) : UR ρ (settleA u) (settle m) := by
  cases u with
  | ret => cases m <;> first | exact h.elim | exact trivial
  | pan ch =>
    cases m with
    | panicking c =>
      cases ch with
      | nil => simp only [UR, CR] at h; subst h; simp [settleA, settle, UR, CR]
      | cons y r =>
        obtain ⟨v, b⟩ := y
        simp only [UR, CR] at h
        obtain ⟨x, es', rfl, h2, h3⟩ := h
        cases b with
        | true =>
          have : settle (.panicking ({ v := x, recovered := true } :: es')) = .returning := by
            simp only [settle]
            rw [h3.drop]
          rw [this]
          exact trivial
        | false =>
          simp only [settleA, settle, UR, CR]
          exact ⟨x, es', rfl, h2, h3⟩
    | _ => exact h.elim

theorem raisedA_ok {ρ : Place} {u : AMode} {m : FrameMode} {ch : AChain} {c : List PanicEntry} (h : UR ρ u m) (k : CR ρ ch c) : UR ρ (raisedA u ch) (raised m c) := by
  cases u with
  | ret => cases m <;> first | exact h.elim | exact k
  | pan old =>
    cases m with
    | panicking o => exact k.append h
    | _ => exact h.elim

abbrev CallD := FuncId → List AV → AMode → Mem → Option (AEnd × AMode × Mem)

def SoundD (E : Env) (base : Nat) (callD : CallD) : Prop :=
  ∀ f args u M x u' M', callD f args u M = some (x, u', M') → (∃ fn, E.fn.get f = some fn) ∧ ∀ ρ w vals m, Cons E base ρ M w → base ≤ w.heap.size → VRs ρ args vals → UR ρ u m →
    CallsD E.P f vals.toArray m w fun e m' w' => ∃ ρ', Step E base ρ w M ρ' w' M' ∧ EndR ρ' x e ∧ UR ρ' u' m'

def leavesA (E : Env) (callD : CallD) (fn : Func) (F : T AV) : List AD → AMode → Mem → Option (AEnd × Mem)
  | [], .ret, M => match resultsA E M F fn with
    | some v => some (.ret v, M)
    | none => none
  | [], .pan ch, M => some (.pan ch, M)
  | d :: ds, u, M => match callD d.f (d.args ++ d.cap) u M with
    | some (.ret _, u', M') => leavesA E callD fn F ds (settleA u') M'
    | some (.pan ch, u', M') => leavesA E callD fn F ds (raisedA u' ch) M'
    | none => none

theorem UR.notRun {ρ : Place} {u : AMode} {m : FrameMode} (h : UR ρ u m) : m ≠ .run := by
  cases u <;> cases m <;> first | exact h.elim | simp

theorem leavesA_ok {E : Env} (OK : E.OK) {base : Nat} {callD : CallD} (hd : SoundD E base callD) {fn : Func} {F : T AV} {n : Nat} : ∀ (D : List AD) (u : AMode) (M : Mem) (x : AEnd) (M' : Mem), leavesA E callD fn F D u M = some (x, M') →
    ∀ (ρ : Place) (a : Act) (w : World) (ds : List Deferred) (m : FrameMode) (R : Ending → World → Prop), Cons E base ρ M w → base ≤ w.heap.size → FR ρ F n a → DR ρ D ds → UR ρ u m →
      (∀ ρ' w' e, Step E base ρ w M ρ' w' M' → EndR ρ' x e → R e w') → Leaves E.P fn a.tmps R ds m w
  | [], .ret, M, x, M', h, ρ, a, w, ds, m, R, hc, hb, hf, hds, hu, hR => by
    simp only [DR] at hds
    subst hds
    cases m with
    | returning =>
      simp only [leavesA] at h
      split at h
      · rename_i v hv
        simp only [Option.some.injEq, Prod.mk.injEq] at h
        obtain ⟨rfl, rfl⟩ := h
        obtain ⟨y, h1, h2⟩ := resultsA_ok hc hf hv
        exact ⟨y, h1, hR ρ w _ (Step.refl hc) h2⟩
      · cases h
    | _ => exact hu.elim
  | [], .pan ch, M, x, M', h, ρ, a, w, ds, m, R, hc, hb, hf, hds, hu, hR => by
    simp only [DR] at hds
    subst hds
    cases m with
    | panicking c =>
      simp only [leavesA, Option.some.injEq, Prod.mk.injEq] at h
      obtain ⟨rfl, rfl⟩ := h
      exact hR ρ w _ (Step.refl hc) hu
    | _ => exact hu.elim
  | d :: D, u, M, x, M', h, ρ, a, w, ds, m, R, hc, hb, hf, hds, hu, hR => by
    simp only [DR] at hds
    obtain ⟨dd, ds', rfl, ⟨cap, ht, hcap, hargs⟩, hrest⟩ := hds
    have hgo : ∃ r, callD d.f (d.args ++ d.cap) u M = some r := by
      simp only [leavesA] at h
      split at h
      · exact ⟨_, by assumption⟩
      · exact ⟨_, by assumption⟩
      · cases h
    obtain ⟨⟨x1, u1, M1⟩, hcd⟩ := hgo
    obtain ⟨⟨fd, hfd⟩, hcalls⟩ := hd _ _ _ _ _ _ _ hcd
    have hvals : VRs ρ (d.args ++ d.cap) (dd.args ++ cap).toList := by simpa using hargs.append hcap
    have hC := hcalls ρ w (dd.args ++ cap).toList m hc hb hvals hu
    refine ⟨hu.notRun, .func d.f, cap, d.f, dd.args ++ cap, ht, ?_, ?_⟩
    · rw [ht]
      simp only [invoke]
      exact (OK.fn _ _ hfd).2 _ w
    · rw [Array.toArray_toList] at hC
      refine CallsD.mono hC fun e m' w' he => ?_
      obtain ⟨ρ', k1, k2, k3⟩ := he
      simp only [leavesA, hcd] at h
      cases x1 with
      | ret v =>
        cases e with
        | returned y =>
          exact leavesA_ok OK hd D _ M1 x M' h ρ' a w' ds' _ R k1.cons (Nat.le_trans hb k1.size) (hf.mono k1.ext) (hrest.mono k1.ext) (settleA_ok k3) fun ρ'' w'' e j1 j2 => hR ρ'' w'' e (k1.trans j1) j2
        | _ => exact k2.elim
      | pan ch =>
        cases e with
        | panicked c =>
          exact leavesA_ok OK hd D _ M1 x M' h ρ' a w' ds' _ R k1.cons (Nat.le_trans hb k1.size) (hf.mono k1.ext) (hrest.mono k1.ext) (raisedA_ok k3 k2) fun ρ'' w'' e j1 j2 => hR ρ'' w'' e (k1.trans j1) j2
        | _ => exact k2.elim

/-! Calls. -/

def callStep (E : Env) (rc : CodeF) (callD : CallD) (f : FuncId) (args : List AV) (M : Mem) : Option (AEnd × Mem) :=
  match E.fn.get f with
  | some fn => match fn.body with
    | some c => match rc .top (args.length + (fn.ntmps - args.length)) c ⟨T.ofList args, [], M⟩ with
      | some (.normal, s) => leavesA E callD fn s.F s.D .ret s.M
      | some (.ret, s) => leavesA E callD fn s.F s.D .ret s.M
      | some (.panic ch, s) => leavesA E callD fn s.F s.D (.pan ch) s.M
      | _ => none
    | none => none
  | none => none

theorem enterFR {ρ : Place} {args : List AV} {vals : List Value} (h : VRs ρ args vals) (k : Nat) (ds : List Deferred) :
    FR ρ (T.ofList args) (args.length + (k - args.length)) { tmps := vals.toArray ++ Array.replicate (k - vals.toArray.size) undef, defers := ds } := by
  have hl := h.length
  refine ⟨by simp [hl], fun t => ?_⟩
  simp only [opd, T.get_ofList]
  cases ht : args[t]? with
  | none => simp [VR]
  | some v =>
    obtain ⟨x, h1, h2⟩ := h.get t v ht
    simp only []
    have hlt : t < vals.length := by
      rcases Nat.lt_or_ge t vals.length with k | k
      · exact k
      · rw [List.getElem?_eq_none k] at h1; cases h1
    have : (vals.toArray ++ Array.replicate (k - vals.toArray.size) undef).getD t undef = x := by
      rw [Array.getD_eq_getD_getElem?, Array.getElem?_append_left (by simpa using hlt)]
      simp [h1]
    rw [this]
    exact h2

theorem callStep_ok {E : Env} (OK : E.OK) {base : Nat} {rc : CodeF} (hc : SoundCode E base rc) {callD : CallD} (hd : SoundD E base callD) : SoundCall E base (callStep E rc callD) := by
  intro f args M x M' h ρ w vals hcons hbase hargs
  unfold callStep at h
  split at h
  · rename_i fn hfn
    obtain ⟨hf, _⟩ := OK.fn f fn hfn
    split at h
    · rename_i c hbody
      have hfr := enterFR hargs fn.ntmps []
      have hsr : SR E base ρ ⟨T.ofList args, [], M⟩ (args.length + (fn.ntmps - args.length)) { tmps := vals.toArray ++ Array.replicate (fn.ntmps - vals.toArray.size) undef, defers := [] } w :=
        ⟨hcons, hfr, rfl, hbase⟩
      refine calls_of_wp_defers hf hbody ?_
      have go : ∀ (y : AExit) (s : St) (u : AMode), rc .top (args.length + (fn.ntmps - args.length)) c ⟨T.ofList args, [], M⟩ = some (y, s) → leavesA E callD fn s.F s.D u s.M = some (x, M') →
          (∀ ρ' e, XR ρ' y e → (∃ m, UR ρ' u m ∧ ∀ a' w', Leaves E.P fn a'.tmps (fun e w' => ∃ ρ', Step E base ρ w M ρ' w' M' ∧ EndR ρ' x e) a'.defers m w' →
            bodyPostD E.P fn (fun e w' => ∃ ρ', Step E base ρ w M ρ' w' M' ∧ EndR ρ' x e) e a' w')) →
          c.wp E.P (bodyPostD E.P fn fun e w' => ∃ ρ', Step E base ρ w M ρ' w' M' ∧ EndR ρ' x e) { tmps := vals.toArray ++ Array.replicate (fn.ntmps - vals.toArray.size) undef, defers := [] } w := by
        intro y s u hy hl hx
        refine hc .top _ c _ y s hy _ ρ _ w hsr fun ρ' a' w' e k1 k2 k3 => ?_
        obtain ⟨m, hm, hfin⟩ := hx ρ' e k3
        refine hfin a' w' (leavesA_ok OK hd s.D u s.M x M' hl ρ' a' w' a'.defers m _ k2.cons k2.base k2.fr k2.dr hm fun ρ'' w'' e' j1 j2 => ⟨ρ'', k1.trans j1, j2⟩)
      split at h
      · rename_i s hy
        refine go .normal s .ret hy h fun ρ' e he => ⟨.returning, trivial, fun a' w' hl => ?_⟩
        cases e with
        | normal => exact hl
        | _ => exact he.elim
      · rename_i s hy
        refine go .ret s .ret hy h fun ρ' e he => ⟨.returning, trivial, fun a' w' hl => ?_⟩
        cases e with
        | ret => exact hl
        | _ => exact he.elim
      · rename_i ch s hy
        refine go (.panic ch) s (.pan ch) hy h fun ρ' e he => ?_
        cases e with
        | panic c => exact ⟨.panicking c, he, fun a' w' hl => hl⟩
        | _ => exact he.elim
      · cases h
    · cases h
  · cases h

end Go.Proofs.YtgfhmhpidijdoaaGreatDoor.Rx

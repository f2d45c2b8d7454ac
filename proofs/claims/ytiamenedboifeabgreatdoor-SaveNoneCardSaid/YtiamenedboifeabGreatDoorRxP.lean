/- A reflective evaluator of the model's code, part P: code, calls, deferred calls; the evaluator, and that it is sound. -/
import Derived.Test.YtiamenedboifeabGreatDoorRxO
import Derived.Test.YtiamenedboifeabGreatDoorRxV
namespace Go.Proofs.YtiamenedboifeabGreatDoor.Rx

/-! What code stands in. -/

inductive Ctx where
  | top
  | scope (b : Code)
  | loop (b : Code)

abbrev CodeF := Ctx → Nat → Code → St → Option (AExit × St)

/-! A range over a function. -/

/-- Where the deferred calls of a loop's rounds are kept, the mark of it, and the memory. -/
def enterA (s : St) : Option (Nat × List AD × Mem) :=
  match s.rd with
  | none => some (s.M.next, [⟨0, [], [], some s.M.next⟩], ⟨s.M.next + 1, s.M.bl.set s.M.next (.defd true)⟩)
  | some b => match s.M.bl.get b with
    | some (.loop _ _ _ _ _ _ _ d) => some (d, [], s.M)
    | _ => none

def jumpA : Option Code → Option AExit
  | none => some .normal
  | some .ret => some .ret
  | some (.exit i) => some (.exit i)
  | some (.goto l) => some (.goto l)
  | _ => none

def rangeEnd (b : Nat) (mk : List AD) (s : St) : Option (AEnd × Mem) → Option (AExit × St)
  | some (.ret _, M') => match M'.bl.get b with
    | some (.loop st pend F n ps as bd d) => match st with
      | .busy => none
      | _ => match jumpA pend with
        | some x => some (x, { s with D := mk ++ s.D, M := ⟨M'.next, M'.bl.set b (.loop .exhausted pend F n ps as bd d)⟩ })
        | none => none
    | _ => none
  | some (.pan ch, M') => some (.panic ch, { s with D := mk ++ s.D, M := M' })
  | none => none

def codeTop (E : Env) (callF : CallF) (rc : CodeF) (n : Nat) (c : Code) (s : St) : Option (AExit × St) :=
  match c with
  | .skip => some (.normal, s)
  | .label _ => some (.normal, s)
  | .region _ ops true => drawA E callF n ops s
  | .region _ ops false => opsA E callF n ops (List.range ops.size) s
  | .seq a b => match rc .top n a s with
    | some (.normal, s1) => rc .top n b s1
    | r => r
  | .cond c a b => match opd s.F c with
    | .lit (.bool true) => rc .top n a s
    | .lit (.bool false) => rc .top n b s
    | _ => none
  | .block id b => match rc .top n b s with
    | some (.exit i, s1) => cond (Nat.beq i id) (some (.normal, s1)) (some (.exit i, s1))
    | r => r
  | .loop b => rc (.loop b) n b s
  | .scope b => rc (.scope b) n b s
  | .exit id => some (.exit id, s)
  | .goto l => some (.goto l, s)
  | .ret => some (.ret, s)
  | .rangeFunc g ps as bd => match closA (opd s.F g) with
    | some (f, first, cap) => match enterA s with
      | some (d, mk, M1) => rangeEnd M1.next mk s (callF (.fn f) (first ++ [.yld M1.next] ++ cap) ⟨M1.next + 1, M1.bl.set M1.next (.loop .ready none s.F n ps as bd d)⟩)
      | none => none
    | none => none
  | _ => none

def codeStep (E : Env) (callF : CallF) (rc : CodeF) (ctx : Ctx) (n : Nat) (c : Code) (s : St) : Option (AExit × St) :=
  match ctx with
  | .top => codeTop E callF rc n c s
  | .scope b => match rc .top n c s with
    | some (.goto l, s1) => match findLabel b l with
      | some rest => rc (.scope b) n rest s1
      | none => some (.goto l, s1)
    | r => r
  | .loop b => match rc .top n c s with
    | some (.normal, s1) => rc (.loop b) n b s1
    | r => r

def Ctx.items : Ctx → List Item
  | .top => []
  | .scope b => [.inScope b]
  | .loop b => [.inLoop b]

/-- The code, in what it stands in. -/
def wpC (P : Program) (rd : Option Nat) (ctx : Ctx) (c : Code) (Q : Exit → Act → World → Prop) (a : Act) (w : World) : Prop :=
  ∀ (b : Frame) (k : List Item) (cs : List Frame), b.roundOf = rd → ∃ e a' w', Q e a' w' ∧ ArrivesIn (Machine.fenced P (W rd)) P (lone (b.atR a (.code c :: (ctx.items ++ k))) cs w) b k cs e a' w'

theorem roomW (rd : Option Nat) (n : Nat) : (W rd).room n := fun _ h => by simp [W, Fence.wide] at h

theorem fencedW (P : Program) (rd : Option Nat) (m : Machine) : m.fenced P (W rd) := fenced_wide P m

theorem wpC_top {P : Program} {rd : Option Nat} {c : Code} {Q : Exit → Act → World → Prop} {a : Act} {w : World} : wpC P rd .top c Q a w ↔ c.wpIn (W rd) 0 P Q a w :=
  ⟨fun h b k cs hro _ _ => h b k cs hro, fun h b k cs hro => h b k cs hro trivial (roomW _ _)⟩

def SoundCode (E : Env) (base : Nat) (rc : CodeF) : Prop :=
  ∀ ctx n c s x s', rc ctx n c s = some (x, s') → ∀ (Q : Exit → Act → World → Prop) rd ρ a w, SR E base rd ρ s n a w → Behind E base rd ρ w s.M n x s' Q → wpC E.P rd ctx c Q a w

theorem SoundCode.top {E : Env} {base : Nat} {rc : CodeF} (hc : SoundCode E base rc) {n : Nat} {c : Code} {s s' : St} {x : AExit} (h : rc .top n c s = some (x, s')) (Q : Exit → Act → World → Prop) {rd : Option Nat} (ρ : Place) (a : Act) (w : World)
    (hr : SR E base rd ρ s n a w) (hb : Behind E base rd ρ w s.M n x s' Q) : c.wpIn (W rd) 0 E.P Q a w := wpC_top.1 (hc .top n c s x s' h Q rd ρ a w hr hb)

section
variable {P : Program} {b : Frame} {a : Act} {k : List Item} {cs : List Frame} {w : World}
theorem stepR_scope {c : Code} : step P (lone (b.atR a (.code (.scope c) :: k)) cs w) = .next (lone (b.atR a (.code c :: .inScope c :: k)) cs w) :=
  step_lone_go (by simp [stepG, stepG.exec, Frame.atR])
theorem stepR_inScope {c : Code} : step P (lone (b.atR a (.inScope c :: k)) cs w) = .next (lone (b.atR a k) cs w) :=
  step_lone_go (by simp [stepG, stepG.exec, Frame.atR])
end

theorem wp_loop_in {P : Program} {rd : Option Nat} {b : Code} {Q : Exit → Act → World → Prop} {a : Act} {w : World} (h : wpC P rd (.loop b) b Q a w) : (Code.loop b).wpIn (W rd) 0 P Q a w := by
  intro fr k cs hro _ _
  obtain ⟨e, a', w', q, r⟩ := h fr k cs hro
  exact ⟨e, a', w', q, .of_steps (.one (fencedW _ _ _) stepR_loop) r⟩

theorem wp_scope_in {P : Program} {rd : Option Nat} {b : Code} {Q : Exit → Act → World → Prop} {a : Act} {w : World} (h : wpC P rd (.scope b) b Q a w) : (Code.scope b).wpIn (W rd) 0 P Q a w := by
  intro fr k cs hro _ _
  obtain ⟨e, a', w', q, r⟩ := h fr k cs hro
  exact ⟨e, a', w', q, .of_steps (.one (fencedW _ _ _) stepR_scope) r⟩

theorem wpC_loop {P : Program} {rd : Option Nat} {body c : Code} {Q : Exit → Act → World → Prop} {a : Act} {w : World} (h : c.wpIn (W rd) 0 P (Exit.then (wpC P rd (.loop body) body Q) Q) a w) : wpC P rd (.loop body) c Q a w := by
  intro b k cs hro
  obtain ⟨e, a₁, w₁, hq, harr⟩ := h b (.inLoop body :: k) cs hro trivial (roomW _ _)
  cases e with
  | normal =>
    obtain ⟨e₂, a₂, w₂, hq₂, harr₂⟩ := hq b k cs hro
    exact ⟨e₂, a₂, w₂, hq₂, .of_steps (StepsIn.trans harr (.one (fencedW _ _ _) stepR_inLoop)) harr₂⟩
  | exit id => exact ⟨_, a₁, w₁, hq, .pass (x := .inLoop body) rfl (fun _ _ => .inl (by simp)) harr⟩
  | goto l => exact ⟨_, a₁, w₁, hq, .pass (x := .inLoop body) rfl (fun _ _ => .inl (by simp)) harr⟩
  | ret => exact ⟨_, a₁, w₁, hq, .pass (x := .inLoop body) rfl (fun _ _ => .inl (by simp)) harr⟩
  | panic ch => exact ⟨_, a₁, w₁, hq, .pass (x := .inLoop body) rfl (fun _ _ => .inl (by simp)) harr⟩
  | outgrown => exact ⟨_, a₁, w₁, hq, .pass (x := .inLoop body) rfl (fun _ _ => .inl (by simp)) harr⟩

def scopeQ (P : Program) (rd : Option Nat) (body : Code) (Q : Exit → Act → World → Prop) : Exit → Act → World → Prop
  | .goto l, a, w => match findLabel body l with
    | some rest => wpC P rd (.scope body) rest Q a w
    | none => Q (.goto l) a w
  | e, a, w => Q e a w

theorem wpC_scope {P : Program} {rd : Option Nat} {body c : Code} {Q : Exit → Act → World → Prop} {a : Act} {w : World} (h : c.wpIn (W rd) 0 P (scopeQ P rd body Q) a w) : wpC P rd (.scope body) c Q a w := by
  intro b k cs hro
  obtain ⟨e, a₁, w₁, hq, harr⟩ := h b (.inScope body :: k) cs hro trivial (roomW _ _)
  cases e with
  | normal => exact ⟨.normal, a₁, w₁, hq, StepsIn.trans harr (.one (fencedW _ _ _) stepR_inScope)⟩
  | exit id => exact ⟨.exit id, a₁, w₁, hq, fun k' hk => harr.1 k' (by simp [exitTo, hk]), fun h1 hk => harr.2 h1 (by simp [exitTo, hk])⟩
  | goto l =>
    simp only [scopeQ] at hq
    split at hq
    · rename_i rest hrest
      obtain ⟨e₂, a₂, w₂, hq₂, harr₂⟩ := hq b k cs hro
      exact ⟨e₂, a₂, w₂, hq₂, .of_steps (harr.1 (.code rest :: .inScope body :: k) (by simp [gotoIn, hrest])) harr₂⟩
    · rename_i hrest
      exact ⟨.goto l, a₁, w₁, hq, fun k' hk => harr.1 k' (by simp [gotoIn, hrest, hk]), fun h1 hk => harr.2 h1 (by simp [gotoIn, hrest, hk])⟩
  | ret => exact ⟨.ret, a₁, w₁, hq, harr⟩
  | panic ch => exact ⟨.panic ch, a₁, w₁, hq, harr⟩
  | outgrown => exact ⟨.outgrown, a₁, w₁, hq, harr⟩

theorem DR.append {ρ : Place} : ∀ {a b : List AD} {x y : List Deferred}, DR ρ a x → DR ρ b y → DR ρ (a ++ b) (x ++ y)
  | [], _, _, _, h, k => by simp only [DR] at h; subst h; exact k
  | d :: r, _, _, _, h, k => by
    simp only [DR] at h
    obtain ⟨x, xs, rfl, h1, h2⟩ := h
    simp only [List.cons_append, DR]
    exact ⟨x, _, rfl, h1, DR.append h2 k⟩

/-- The record of a loop, as it lies. -/
theorem loop_at {E : Env} {base : Nat} {ρ : Place} {M : Mem} {w : World} (hc : Cons E base ρ M w) {b : Nat} {l : Loc} (hl : ρ b = some l) {st : LoopState} {pend : Option Code} {F : T AV} {n : Nat} {ps : Array Tmp} {as bd : Code} {d : Nat}
    (h : M.bl.get b = some (.loop st pend F n ps as bd d)) : l.off = 0 ∧ ∃ fn tmps ld, ρ d = some ld ∧ LR ρ F n tmps ∧
      w.heap[l.blk]? = some (.loop { state := st, pending := pend, fn := fn, tmps := tmps, params := ps, assign := as, body := bd, defers := ld.blk }) := by
  obtain ⟨l', hl', h0, fn, tmps, ld, h1, h2, h3⟩ := hc.blk b _ h
  rw [hl, Option.some.injEq] at hl'
  subst hl'
  exact ⟨h0, fn, tmps, ld, h1, h2, h3⟩

/-- The record of a loop is written anew. -/
theorem loop_over {E : Env} {base : Nat} {ρ : Place} {M : Mem} {w : World} (hc : Cons E base ρ M w) {b : Nat} {l : Loc} (hl : ρ b = some l) {st : LoopState} {pend : Option Code} {F : T AV} {n : Nat} {ps : Array Tmp} {as bd : Code} {d : Nat}
    (h : M.bl.get b = some (.loop st pend F n ps as bd d)) (st' : LoopState) (pend' : Option Code) : ∃ fn tmps ld, 
      w.heap[l.blk]? = some (.loop { state := st, pending := pend, fn := fn, tmps := tmps, params := ps, assign := as, body := bd, defers := ld }) ∧
      Step E base ρ w M ρ { w with heap := w.heap.setIfInBounds l.blk (.loop { state := st', pending := pend', fn := fn, tmps := tmps, params := ps, assign := as, body := bd, defers := ld }) } ⟨M.next, M.bl.set b (.loop st' pend' F n ps as bd d)⟩ := by
  obtain ⟨h0, fn, tmps, ld, h1, h2, h3⟩ := loop_at hc hl h
  refine ⟨fn, tmps, ld.blk, h3, ?_⟩
  exact Step.over hc h hl (by simp) (fun i hi => by simp only []; rw [Array.getElem?_setIfInBounds_ne (fun e => hi e.symm)]) ⟨h0, fn, tmps, ld, h1, h2, setObj_at h3⟩ rfl rfl rfl

theorem enterA_ok {E : Env} {base : Nat} {rd : Option Nat} {ρ : Place} {s : St} {n : Nat} {a : Act} {w : World} (hr : SR E base rd ρ s n a w) {d : Nat} {mk : List AD} {M1 : Mem} (h : enterA s = some (d, mk, M1)) :
    ∃ ρ1 w1 ld marks, Step E base ρ w s.M ρ1 w1 M1 ∧ ρ1 d = some ld ∧ DR ρ1 mk marks ∧
      ∀ fn tmps ps as bd, (Instr.enterLoop fn tmps ps as bd rd).run E.P w = .ok (w1.heap.size, marks) (w1.alloc (.loop { state := .ready, pending := none, fn := fn, tmps := tmps, params := ps, assign := as, body := bd, defers := ld.blk })) := by
  unfold enterA at h
  have hrd := hr.rd
  split at h
  · rename_i hs
    rw [hs] at hrd
    cases rd with
    | some l => exact hrd.elim
    | none =>
      simp only [Option.some.injEq, Prod.mk.injEq] at h
      obtain ⟨rfl, rfl, rfl⟩ := h
      have hnone : ρ s.M.next = none := hr.cons.none
      refine ⟨ρ.upd s.M.next ⟨w.heap.size, 0, 0, undef⟩, w.alloc (.deferred (some [])), ⟨w.heap.size, 0, 0, undef⟩, [{ target := .collected w.heap.size, args := #[] }],
        Step.push hr.cons hr.base hnone (Nat.le_succ _) (Nat.lt_succ_self _) (Nat.le_refl _) rfl (alloc_old w _).1 (alloc_old w _).2 ⟨rfl, alloc_new w _⟩ rfl rfl rfl,
        Place.upd_same _ _ _, ?_, fun fn tmps ps as bd => ?_⟩
      · simp only [DR]
        exact ⟨_, [], rfl, ⟨⟨w.heap.size, 0, 0, undef⟩, Place.upd_same _ _ _, rfl⟩, rfl⟩
      · simp [Instr.enterLoop]
  · rename_i b hs
    rw [hs] at hrd
    split at h
    · rename_i hb
      simp only [Option.some.injEq, Prod.mk.injEq] at h
      obtain ⟨rfl, rfl, rfl⟩ := h
      cases rd with
      | none => exact hrd.elim
      | some l0 =>
        obtain ⟨lc, h1, rfl⟩ := hrd
        obtain ⟨_, fn0, tmps0, ld, k1, k2, k3⟩ := loop_at hr.cons h1 hb
        refine ⟨ρ, w, ld, [], Step.refl hr.cons, k1, rfl, fun fn tmps ps as bd => ?_⟩
        simp [Instr.enterLoop, Instr.getLoop, getObj, Sem.run, k3]
    · cases h

/-- What is walked behind the loop, by the jump that a round has left. -/
def afterJump (P : Program) (rd : Option Nat) (Q : Exit → Act → World → Prop) (a : Act) (w : World) : Option Code → Prop
  | none => Q .normal a w
  | some c => c.wpIn (W rd) 0 P Q a w

theorem jumpA_ok {P : Program} {rd : Option Nat} {ρ : Place} {pend : Option Code} {x : AExit} (h : jumpA pend = some x) {Q : Exit → Act → World → Prop} {a : Act} {w : World} (hq : ∀ e, XR ρ x e → Q e a w) :
    afterJump P rd Q a w pend := by
  unfold jumpA at h
  split at h
  · simp only [Option.some.injEq] at h; subst h
    exact hq .normal trivial
  · simp only [Option.some.injEq] at h; subst h
    exact wpIn_ret (hq .ret trivial)
  · simp only [Option.some.injEq] at h; subst h
    exact wpIn_exit (hq (.exit _) rfl)
  · simp only [Option.some.injEq] at h; subst h
    exact wpIn_goto (hq (.goto _) rfl)
  · cases h

theorem range_ok {E : Env} (OK : E.OK) {base : Nat} {rd : Option Nat} {callF : CallF} (hs : SoundCall E base callF) (hent : ∀ f args M x, callF (.fn f) args M = some x → ∃ fn, E.fn.get f = some fn)
    {n : Nat} {g : Operand} {ps : Array Tmp} {as bd : Code} {s s' : St} {x : AExit} {f : FuncId} {first cap : List AV} (hg : closA (opd s.F g) = some (f, first, cap)) {d : Nat} {mk : List AD} {M1 : Mem} (he : enterA s = some (d, mk, M1))
    (h : rangeEnd M1.next mk s (callF (.fn f) (first ++ [.yld M1.next] ++ cap) ⟨M1.next + 1, M1.bl.set M1.next (.loop .ready none s.F n ps as bd d)⟩) = some (x, s'))
    {Q : Exit → Act → World → Prop} {ρ : Place} {a : Act} {w : World} (hr : SR E base rd ρ s n a w) (hb : Behind E base rd ρ w s.M n x s' Q) : (Code.rangeFunc g ps as bd).wpIn (W rd) 0 E.P Q a w := by
  obtain ⟨fs, cs, e, h1, h2⟩ := closA_ok (hr.fr.eval g) hg
  obtain ⟨ρ1, w1, ld, marks, st1, hld, hmk, hrun⟩ := enterA_ok hr he
  have hnone : ρ1 M1.next = none := st1.cons.none
  have hb1 : base ≤ w1.heap.size := Nat.le_trans hr.base st1.size
  refine wpIn_rangeFunc fun fn0 _ => ?_
  have hrun := hrun fn0 a.tmps ps as bd
  generalize hrec : ({ state := .ready, pending := none, fn := fn0, tmps := a.tmps, params := ps, assign := as, body := bd, defers := ld.blk } : Loop) = rec0 at hrun
  have st2 : Step E base ρ1 w1 M1 (ρ1.upd M1.next ⟨w1.heap.size, 0, 0, undef⟩) (w1.alloc (.loop rec0)) ⟨M1.next + 1, M1.bl.set M1.next (.loop .ready none s.F n ps as bd d)⟩ := by
    refine Step.push st1.cons hb1 hnone (Nat.le_succ _) (Nat.lt_succ_self _) (Nat.le_refl _) rfl (alloc_old w1 _).1 (alloc_old w1 _).2 ⟨rfl, fn0, a.tmps, ld, Place.le_upd hnone _ _ hld, ⟨hr.fr.size, fun t => ?_⟩, ?_⟩ rfl rfl rfl
    · exact ((hr.fr.get t).mono st1.ext).mono (Place.le_upd hnone)
    · rw [hrec]; exact alloc_new w1 _
  have hvals : VRs (ρ1.upd M1.next ⟨w1.heap.size, 0, 0, undef⟩) (first ++ [.yld M1.next] ++ cap) (fs ++ #[Value.func (.yield w1.heap.size) #[] #[]] ++ cs).toList := by
    have k1 := VRs.mono st2.ext _ _ (VRs.mono st1.ext _ _ h1)
    have k2 := VRs.mono st2.ext _ _ (VRs.mono st1.ext _ _ h2)
    have k3 : VRs (ρ1.upd M1.next ⟨w1.heap.size, 0, 0, undef⟩) [.yld M1.next] [Value.func (.yield w1.heap.size) #[] #[]] := by
      simp only [VRs, VR]
      exact ⟨_, [], rfl, ⟨_, Place.upd_same _ _ _, rfl⟩, rfl⟩
    simpa using (k1.append (k3.append k2))
  obtain ⟨y, M', hv⟩ : ∃ y M', callF (.fn f) (first ++ [.yld M1.next] ++ cap) ⟨M1.next + 1, M1.bl.set M1.next (.loop .ready none s.F n ps as bd d)⟩ = some (y, M') := by
    cases hq : callF (.fn f) (first ++ [.yld M1.next] ++ cap) ⟨M1.next + 1, M1.bl.set M1.next (.loop .ready none s.F n ps as bd d)⟩ with
    | none => rw [hq] at h; simp [rangeEnd] at h
    | some z => exact ⟨z.1, z.2, rfl⟩
  rw [hv] at h
  obtain ⟨fn, hfn⟩ := hent f _ _ _ hv
  have hcall := hs (.fn f) _ _ _ M' hv _ (w1.alloc (.loop rec0)) _ st2.cons (Nat.le_trans hb1 st2.size) hvals
  rw [Array.toArray_toList] at hcall
  have hin : (invoke (.fn (.func f) cs) (fs ++ #[Value.func (.yield w1.heap.size) #[] #[]])).run E.P (w1.alloc (.loop rec0)) = .ok (.enter f (fs ++ #[Value.func (.yield w1.heap.size) #[] #[]] ++ cs)) (w1.alloc (.loop rec0)) := by
    simp only [invoke]
    exact (OK.fn f fn hfn).2 _ _
  refine ⟨w1.heap.size, marks, w1.alloc (.loop rec0), { target := .fn (.func f) cs, args := fs ++ #[Value.func (.yield w1.heap.size) #[] #[]] }, w1.alloc (.loop rec0), f, fs ++ #[Value.func (.yield w1.heap.size) #[] #[]] ++ cs, w1.alloc (.loop rec0),
    hrun, ?_, fun _ _ => trivial, hin, fun h => by simp [W, Fence.wide] at h, ?_⟩
  · simp only [resolve, e, Deferred.ofValue, Sem.run_pure]
    simp [Act.eval]
  · refine callsIn_wide.2 (Calls.mono hcall fun e' w' he' => ?_)
    obtain ⟨ρ', k1, k2⟩ := he'
    have hst := st1.trans (st2.trans k1)
    have hfrA : ∀ ρ2, ρ.le ρ2 → FR ρ2 s.F n { a with defers := marks ++ a.defers } := fun ρ2 hle => ⟨(hr.fr.mono hle).size, (hr.fr.mono hle).get⟩
    have hdrA : DR ρ' (mk ++ s.D) (marks ++ a.defers) := (hmk.mono (st2.ext.trans k1.ext)).append (hr.dr.mono hst.ext)
    cases y with
    | ret v =>
      cases e' with
      | returned z =>
        simp only [rangeEnd] at h
        split at h
        · rename_i st pend F' n' ps' as' bd' d' hloop
          have hl : ρ' M1.next = some ⟨w1.heap.size, 0, 0, undef⟩ := k1.ext _ _ (Place.upd_same _ _ _)
          obtain ⟨fn', tmps', ld', k3, k4⟩ := loop_over k1.cons hl hloop .exhausted pend
          have hx : st ≠ .busy ∧ ∃ y, jumpA pend = some y ∧ (y, ({ s with D := mk ++ s.D, M := ⟨M'.next, M'.bl.set M1.next (.loop .exhausted pend F' n' ps' as' bd' d')⟩ } : St)) = (x, s') := by
            cases hj : jumpA pend with
            | none => rw [hj] at h; cases st <;> simp at h
            | some y => rw [hj] at h; cases st <;> simp only [Option.some.injEq, reduceCtorEq] at h <;> exact ⟨by simp, y, rfl, h⟩
          obtain ⟨hbusy, y, hj, hys⟩ := hx
          simp only [Prod.mk.injEq] at hys
          obtain ⟨rfl, rfl⟩ := hys
          have hj2 : ∀ w4, (∀ e3, XR ρ' y e3 → Q e3 { a with defers := marks ++ a.defers } w4) → afterJump E.P rd Q { a with defers := marks ++ a.defers } w4 pend := fun w4 hq => jumpA_ok (ρ := ρ') hj hq
          refine ⟨pend, { w' with heap := w'.heap.setIfInBounds w1.heap.size (.loop { state := .exhausted, pending := pend, fn := fn', tmps := tmps', params := ps', assign := as', body := bd', defers := ld' }) }, ?_, ?_⟩
          rotate_left
          · have hst' := hst.trans k4
            have := hj2 _ fun e3 hx3 => hb ρ' _ _ e3 hst' ⟨hst'.cons, hfrA _ hst'.ext, hdrA, Nat.le_trans hr.base hst'.size, hr.rd.mono hst'.ext⟩ hx3
            cases pend <;> exact this
          · simp [Instr.endLoop, Instr.getLoop, getObj, setObj, Sem.run, k3]
            exact fun h => absurd h hbusy
        · cases h
      | _ => exact k2.elim
    | pan ch =>
      cases e' with
      | panicked c =>
        simp only [rangeEnd, Option.some.injEq, Prod.mk.injEq] at h
        obtain ⟨rfl, rfl⟩ := h
        exact hb ρ' _ _ (.panic c) hst ⟨hst.cons, hfrA _ hst.ext, hdrA, Nat.le_trans hr.base hst.size, hr.rd.mono hst.ext⟩ k2
      | _ => exact k2.elim

theorem codeTop_ok {E : Env} (OK : E.OK) {base : Nat} {rd : Option Nat} {callF : CallF} (hs : SoundCall E base callF) (hent : ∀ f args M x, callF (.fn f) args M = some x → ∃ fn, E.fn.get f = some fn) {rc : CodeF} (hc : SoundCode E base rc)
    {n : Nat} {c : Code} {s s' : St} {x : AExit} (h : codeTop E callF rc n c s = some (x, s')) {Q : Exit → Act → World → Prop} {ρ : Place} {a : Act} {w : World} (hr : SR E base rd ρ s n a w) (hb : Behind E base rd ρ w s.M n x s' Q) : c.wpIn (W rd) 0 E.P Q a w := by
  unfold codeTop at h
  split at h
  · simp only [Option.some.injEq, Prod.mk.injEq] at h
    obtain ⟨rfl, rfl⟩ := h
    exact wpIn_skip (hb ρ a w .normal (Step.refl hr.cons) hr trivial)
  · simp only [Option.some.injEq, Prod.mk.injEq] at h
    obtain ⟨rfl, rfl⟩ := h
    exact wpIn_label (hb ρ a w .normal (Step.refl hr.cons) hr trivial)
  · -- an open region
    refine wpIn_region_any OK.mixed ?_
    have hst : Step E base ρ w s.M ρ { w with drawn := w.drawn + 1 } s.M := Step.drawn hr.cons rfl rfl rfl rfl
    exact drawA_ok OK hs hent h ⟨hst.cons, hr.fr, hr.dr, hr.base, hr.rd⟩ (hb.step hst)
  · exact wpIn_region (opsA_ok OK hs hent _ s x s' h ρ a w hr hb)
  · rename_i c1 c2
    refine wpIn_seq ?_
    split at h
    · rename_i s1 h1
      refine hc.top h1 _ ρ a w hr fun ρ' a' w' e k1 k2 k3 => ?_
      cases e with
      | normal => exact hc.top h Q ρ' a' w' k2 (hb.step k1)
      | _ => exact k3.elim
    · rename_i hne
      refine hc.top h _ ρ a w hr fun ρ' a' w' e k1 k2 k3 => ?_
      have := hb ρ' a' w' e k1 k2 k3
      cases e with
      | normal =>
        cases x with
        | normal => exact absurd h (hne s')
        | _ => exact k3.elim
      | _ => exact this
  · rename_i cc c1 c2
    have hv := hr.fr.eval cc
    split at h
    · rename_i ht
      rw [ht] at hv
      exact wpIn_cond_true hv (hc.top h Q ρ a w hr hb)
    · rename_i ht
      rw [ht] at hv
      exact wpIn_cond_false hv (hc.top h Q ρ a w hr hb)
    · cases h
  · rename_i id c1
    refine wpIn_block ?_
    split at h
    · rename_i i s1 h1
      refine hc.top h1 _ ρ a w hr fun ρ' a' w' e k1 k2 k3 => ?_
      cases e with
      | exit j =>
        have hij : i = j := k3
        subst hij
        cases hbq : Nat.beq i id with
        | true =>
          rw [hbq] at h
          simp only [cond_true, Option.some.injEq, Prod.mk.injEq] at h
          obtain ⟨rfl, rfl⟩ := h
          have : i = id := Nat.eq_of_beq_eq_true hbq
          simp only [Exit.inBlock, this, if_true]
          exact hb ρ' a' w' .normal k1 k2 trivial
        | false =>
          rw [hbq] at h
          simp only [cond_false, Option.some.injEq, Prod.mk.injEq] at h
          obtain ⟨rfl, rfl⟩ := h
          have : i ≠ id := fun e => by subst e; simp at hbq
          simp only [Exit.inBlock, this, if_false]
          exact hb ρ' a' w' (.exit i) k1 k2 rfl
      | _ => exact k3.elim
    · rename_i hne
      refine hc.top h _ ρ a w hr fun ρ' a' w' e k1 k2 k3 => ?_
      have := hb ρ' a' w' e k1 k2 k3
      cases e with
      | exit j =>
        cases x with
        | exit i => exact absurd h (hne i s')
        | _ => exact k3.elim
      | _ => exact this
  · rename_i c1
    exact wp_loop_in (hc (.loop c1) n c1 s x s' h Q rd ρ a w hr hb)
  · rename_i c1
    exact wp_scope_in (hc (.scope c1) n c1 s x s' h Q rd ρ a w hr hb)
  · simp only [Option.some.injEq, Prod.mk.injEq] at h
    obtain ⟨rfl, rfl⟩ := h
    exact wpIn_exit (hb ρ a w (.exit _) (Step.refl hr.cons) hr rfl)
  · simp only [Option.some.injEq, Prod.mk.injEq] at h
    obtain ⟨rfl, rfl⟩ := h
    exact wpIn_goto (hb ρ a w (.goto _) (Step.refl hr.cons) hr rfl)
  · simp only [Option.some.injEq, Prod.mk.injEq] at h
    obtain ⟨rfl, rfl⟩ := h
    exact wpIn_ret (hb ρ a w .ret (Step.refl hr.cons) hr trivial)
  · -- a range over a function
    split at h
    · rename_i f first cap hg
      split at h
      · rename_i d mk M1 he
        exact range_ok OK hs hent hg he h hr hb
      · cases h
    · cases h
  · cases h

theorem codeStep_ok {E : Env} (OK : E.OK) {base : Nat} {callF : CallF} (hs : SoundCall E base callF) (hent : ∀ f args M x, callF (.fn f) args M = some x → ∃ fn, E.fn.get f = some fn) {rc : CodeF} (hc : SoundCode E base rc) :
    SoundCode E base (codeStep E callF rc) := by
  intro ctx n c s x s' h Q rd ρ a w hr hb
  cases ctx with
  | top => exact wpC_top.2 (codeTop_ok OK hs hent hc h hr hb)
  | scope b =>
    simp only [codeStep] at h
    refine wpC_scope ?_
    split at h
    · rename_i l s1 h1
      refine hc.top h1 _ ρ a w hr fun ρ' a' w' e k1 k2 k3 => ?_
      cases e with
      | goto j =>
        have hij : l = j := k3
        subst hij
        split at h
        · rename_i rest hrest
          simp only [scopeQ, hrest]
          exact hc (.scope b) n rest s1 x s' h Q rd ρ' a' w' k2 (hb.step k1)
        · rename_i hrest
          simp only [Option.some.injEq, Prod.mk.injEq] at h
          obtain ⟨rfl, rfl⟩ := h
          simp only [scopeQ, hrest]
          exact hb ρ' a' w' (.goto l) k1 k2 rfl
      | _ => exact k3.elim
    · rename_i hne
      refine hc.top h _ ρ a w hr fun ρ' a' w' e k1 k2 k3 => ?_
      have := hb ρ' a' w' e k1 k2 k3
      cases e with
      | goto j =>
        cases x with
        | goto i => exact absurd h (hne i s')
        | _ => exact k3.elim
      | _ => exact this
  | loop b =>
    simp only [codeStep] at h
    refine wpC_loop ?_
    split at h
    · rename_i s1 h1
      refine hc.top h1 _ ρ a w hr fun ρ' a' w' e k1 k2 k3 => ?_
      cases e with
      | normal => exact hc (.loop b) n b s1 x s' h Q rd ρ' a' w' k2 (hb.step k1)
      | _ => exact k3.elim
    · rename_i hne
      refine hc.top h _ ρ a w hr fun ρ' a' w' e k1 k2 k3 => ?_
      have := hb ρ' a' w' e k1 k2 k3
      cases e with
      | normal =>
        cases x with
        | normal => exact absurd h (hne s')
        | _ => exact k3.elim
      | _ => exact this

/-! A round of a range over a function. -/

def setAll (F : T AV) (n : Nat) : List Tmp → List AV → Option (T AV)
  | [], [] => some F
  | t :: ts, v :: vs => match put F n (some t) v with
    | some F' => setAll F' n ts vs
    | none => none
  | _, _ => none

def endA (b : Nat) (pend : Option Code) (M : Mem) : Option (AEnd × Mem) :=
  match M.bl.get b with
  | some (.loop _ _ F n ps as bd d) => some (.ret (.lit (.bool pend.isNone)), ⟨M.next, M.bl.set b (.loop (if pend.isNone then .ready else .done) pend F n ps as bd d)⟩)
  | _ => none

def roundStep (rc : CodeF) (b : Nat) (args : List AV) (M : Mem) : Option (AEnd × Mem) :=
  match M.bl.get b with
  | some (.loop _ _ F n ps as bd _) => match setAll F n ps.toList args with
    | some F' => match rc .top n as ⟨F', [], M, some b⟩ with
      | some (.normal, s1) => match s1.M.bl.get b with
        | some (.loop .ready pend F2 n2 ps2 as2 bd2 d2) => match rc .top n bd { s1 with M := ⟨s1.M.next, s1.M.bl.set b (.loop .busy pend F2 n2 ps2 as2 bd2 d2)⟩ } with
          | some (.normal, s2) => endA b none s2.M
          | some (.ret, s2) => endA b (some .ret) s2.M
          | some (.exit i, s2) => endA b (some (.exit i)) s2.M
          | some (.goto l, s2) => endA b (some (.goto l)) s2.M
          | _ => none
        | _ => none
      | _ => none
    | none => none
  | _ => none

theorem setAll_ok {ρ : Place} {n : Nat} : ∀ (ts : List Tmp) (F F' : T AV) (args : List AV) (vals : List Value) (a : Act), FR ρ F n a → VRs ρ args vals → setAll F n ts args = some F' →
    ts.length = vals.length ∧ FR ρ F' n { a with tmps := (ts.zip vals).foldl (fun (tmps : Array Value) (x : Tmp × Value) => tmps.setIfInBounds x.1 x.2) a.tmps }
  | [], F, F', [], vals, a, hf, hv, h => by
    simp only [setAll, Option.some.injEq] at h
    subst h
    simp only [VRs] at hv
    subst hv
    exact ⟨rfl, hf⟩
  | [], _, _, _ :: _, _, _, _, _, h => by simp [setAll] at h
  | _ :: _, _, _, [], _, _, _, _, h => by simp [setAll] at h
  | t :: ts, F, F', v :: vs, vals, a, hf, hv, h => by
    simp only [setAll] at h
    split at h
    · rename_i F1 hF1
      simp only [VRs] at hv
      obtain ⟨x, xs, rfl, h1, h2⟩ := hv
      have hf1 := hf.put h1 hF1
      obtain ⟨k1, k2⟩ := setAll_ok ts F1 F' vs xs _ hf1 h2 h
      refine ⟨by simp [k1], ?_⟩
      exact ⟨k2.size, k2.get⟩
    · cases h

theorem endA_ok {E : Env} {base : Nat} {ρ : Place} {M M' : Mem} {w : World} (hc : Cons E base ρ M w) {b : Nat} {l : Loc} (hl : ρ b = some l) {pend : Option Code} {x : AEnd} (h : endA b pend M = some (x, M')) :
    ∃ v w', (Instr.endRound l.blk pend).run E.P w = .ok v w' ∧ Step E base ρ w M ρ w' M' ∧ EndR ρ x (.returned v) := by
  unfold endA at h
  split at h
  · rename_i st pend0 F n ps as bd d hb
    simp only [Option.some.injEq, Prod.mk.injEq] at h
    obtain ⟨rfl, rfl⟩ := h
    obtain ⟨fn, tmps, ld, h1, h2⟩ := loop_over hc hl hb (if pend.isNone then .ready else .done) pend
    refine ⟨.bool pend.isNone, _, ?_, h2, by simp only [EndR, VR]⟩
    simp [Instr.endRound, Instr.getLoop, getObj, setObj, Sem.run, h1]
  · cases h

theorem roundStep_ok {E : Env} {base : Nat} {rc : CodeF} (hc : SoundCode E base rc) {b : Nat} {args : List AV} {M M' : Mem} {x : AEnd} (h : roundStep rc b args M = some (x, M')) {ρ : Place} {w : World} {vals : List Value}
    (hcons : Cons E base ρ M w) (hbase : base ≤ w.heap.size) (hargs : VRs ρ args vals) : CalOK E.P ρ (.yld b) vals.toArray w fun e w' => ∃ ρ', Step E base ρ w M ρ' w' M' ∧ EndR ρ' x e := by
  intro l hl
  unfold roundStep at h
  split at h
  · rename_i st0 pend0 F n ps as bd d0 hb
    obtain ⟨h0, fn, tmps, ld, k1, k2, k3⟩ := loop_at hcons hl hb
    split at h
    · rename_i F' hF'
      split at h
      · rename_i s1 hs1
        split at h
        · rename_i pend F2 n2 ps2 as2 bd2 d2 hb1
          obtain ⟨hlen, hfr⟩ := setAll_ok ps.toList F F' args vals { tmps := tmps, defers := [] } ⟨k2.1, k2.2⟩ hargs hF'
          have hsz : vals.toArray.size = ps.size := by simpa using hlen.symm
          refine ⟨fn, (ps.toList.zip vals).foldl (fun (tmps : Array Value) (x : Tmp × Value) => tmps.setIfInBounds x.1 x.2) tmps, as, bd, ?_, ?_⟩
          · have hz : (ps.zip vals.toArray).size = ps.size := by rw [Array.size_zip, hsz, Nat.min_self]
            have hfold : (ps.zip vals.toArray).foldl (fun (tmps : Array Value) (x : Tmp × Value) => tmps.setIfInBounds x.1 x.2) tmps = (ps.toList.zip vals).foldl (fun (tmps : Array Value) (x : Tmp × Value) => tmps.setIfInBounds x.1 x.2) tmps := by
              rw [← Array.foldl_toList, Array.toList_zip]
            rw [← hfold]
            simp [Instr.yield, Instr.getLoop, getObj, Sem.run, k3, hsz]
          · refine roundIn_of_wpIn trivial ?_
            have hsr : SR E base (some l.blk) ρ ⟨F', [], M, some b⟩ n { tmps := (ps.toList.zip vals).foldl (fun (tmps : Array Value) (x : Tmp × Value) => tmps.setIfInBounds x.1 x.2) tmps, defers := [] } w :=
              ⟨hcons, hfr, rfl, hbase, l, hl, rfl⟩
            refine hc.top (rd := some l.blk) hs1 _ ρ _ w hsr fun ρ1 a1 w1 e j1 j2 j3 => ?_
            cases e with
            | normal =>
              have hl1 : ρ1 b = some l := j1.ext _ _ hl
              obtain ⟨fn1, tmps1, ld1, m1, m2⟩ := loop_over j2.cons hl1 hb1 .busy pend
              generalize hw2 : ({ w1 with heap := w1.heap.setIfInBounds l.blk (.loop { state := .busy, pending := pend, fn := fn1, tmps := tmps1, params := ps2, assign := as2, body := bd2, defers := ld1 }) } : World) = w2 at m2
              refine ⟨w2, ?_, ?_⟩
              rotate_left
              · have hsr2 : SR E base (some l.blk) ρ1 { s1 with M := ⟨s1.M.next, s1.M.bl.set b (.loop .busy pend F2 n2 ps2 as2 bd2 d2)⟩ } n a1 w2 :=
                  ⟨m2.cons, j2.fr, j2.dr, Nat.le_trans j2.base m2.size, j2.rd⟩
                have fin : ∀ (y : AExit) (s2 : St) (pe : Option Code), rc .top n bd { s1 with M := ⟨s1.M.next, s1.M.bl.set b (.loop .busy pend F2 n2 ps2 as2 bd2 d2)⟩ } = some (y, s2) → endA b pe s2.M = some (x, M') →
                    (∀ ρ2 e, XR ρ2 y e → ∀ a2 w2, (∃ v w3, (Instr.endRound l.blk pe).run E.P w2 = .ok v w3 ∧ ∃ ρ', Step E base ρ w M ρ' w3 M' ∧ EndR ρ' x (.returned v)) → roundPost E.P l.blk (fun e w' => ∃ ρ', Step E base ρ w M ρ' w' M' ∧ EndR ρ' x e) e a2 w2) →
                    bd.wpIn (W (some l.blk)) 0 E.P (roundPost E.P l.blk (fun e w' => ∃ ρ', Step E base ρ w M ρ' w' M' ∧ EndR ρ' x e)) a1 w2 := by
                  intro y s2 pe hy he hx
                  refine hc.top (rd := some l.blk) hy _ ρ1 _ w2 hsr2 fun ρ2 a2 w2 e2 g1 g2 g3 => hx ρ2 e2 g3 a2 w2 ?_
                  obtain ⟨v, w3, q1, q2, q3⟩ := endA_ok g2.cons (g1.ext _ _ hl1) he
                  exact ⟨v, w3, q1, ρ2, j1.trans (m2.trans (g1.trans q2)), q3⟩
                split at h
                · rename_i s2 hy
                  refine fin .normal s2 none hy h fun ρ2 e hx a2 w2 hw2 => ?_
                  cases e with
                  | normal => exact hw2
                  | _ => exact hx.elim
                · rename_i s2 hy
                  refine fin .ret s2 _ hy h fun ρ2 e hx a2 w2 hw2 => ?_
                  cases e with
                  | ret => exact hw2
                  | _ => exact hx.elim
                · rename_i i s2 hy
                  refine fin (.exit i) s2 _ hy h fun ρ2 e hx a2 w2 hw2 => ?_
                  cases e with
                  | exit j => obtain rfl : i = j := hx; exact hw2
                  | _ => exact hx.elim
                · rename_i i s2 hy
                  refine fin (.goto i) s2 _ hy h fun ρ2 e hx a2 w2 hw2 => ?_
                  cases e with
                  | goto j => obtain rfl : i = j := hx; exact hw2
                  | _ => exact hx.elim
                · cases h
              · rw [← hw2]; simp [Instr.beginRound, Instr.getLoop, getObj, setObj, Sem.run, m1]
            | _ => exact j3.elim
        · cases h
      · cases h
    · cases h
  · cases h

/-! Results. -/

def resOne (E : Env) (M : Mem) (F : T AV) : ResultVar → Option AV
  | .tmp t => some (opd F (.tmp t))
  | .cell a t => loadA E M t (opd F (.tmp a))

def resAll (E : Env) (M : Mem) (F : T AV) : List ResultVar → Option (List AV)
  | [] => some []
  | r :: rs => match resOne E M F r with
    | some v => match resAll E M F rs with
      | some l => some (v :: l)
      | none => none
    | none => none

def resultsA (E : Env) (M : Mem) (F : T AV) (fn : Func) : Option AV :=
  match resAll E M F fn.results.toList with
  | some [v] => some v
  | some l => some (.tuple l)
  | none => none

def resSem (tmps : Array Value) : ResultVar → Sem Value
  | .tmp t => pure (tmps.getD t undef)
  | .cell a t => do loadVar t (← asAddr (tmps.getD a undef))

theorem resAll_ok {E : Env} {base : Nat} {ρ : Place} {M : Mem} {w : World} (hc : Cons E base ρ M w) {F : T AV} {n : Nat} {a : Act} (hf : FR ρ F n a) : ∀ (l : List ResultVar) (vs : List AV), resAll E M F l = some vs →
    ∃ xs, (l.mapM (resSem a.tmps)).run E.P w = .ok xs w ∧ VRs ρ vs xs
  | [], vs, h => by
    simp only [resAll, Option.some.injEq] at h
    subst h
    exact ⟨[], rfl, by simp [VRs]⟩
  | r :: rs, vs, h => by
    simp only [resAll] at h
    split at h
    · rename_i v hv
      split at h
      · rename_i l hl
        simp only [Option.some.injEq] at h
        subst h
        obtain ⟨xs, h1, h2⟩ := resAll_ok hc hf rs l hl
        have : ∃ x, (resSem a.tmps r).run E.P w = .ok x w ∧ VR ρ v x := by
          cases r with
          | tmp t =>
            simp only [resOne, Option.some.injEq] at hv
            subst hv
            exact ⟨_, rfl, hf.get t⟩
          | cell c t =>
            simp only [resOne] at hv
            obtain ⟨y, k1, k2⟩ := loadA_ok hc (hf.get c) hv
            refine ⟨y, ?_, k2⟩
            simp only [resSem]
            generalize a.tmps.getD c undef = q at k1
            cases q with
            | pointer o =>
              cases o with
              | none => simp [Instr.loadAt, Instr.sureAddr, stuck] at k1
              | some ad => simpa [Instr.loadAt, Instr.sureAddr, asAddr] using k1
            | _ => simp [Instr.loadAt, Instr.sureAddr, stuck] at k1
        obtain ⟨x, k1, k2⟩ := this
        refine ⟨x :: xs, ?_, ?_⟩
        · rw [List.mapM_cons]
          simp only [Sem.run_bind, k1, Result.andThen_ok, h1, Sem.run_pure]
        · simp only [VRs]; exact ⟨x, xs, rfl, k2, h2⟩
      · cases h
    · cases h

theorem resultsA_ok {E : Env} {base : Nat} {ρ : Place} {M : Mem} {w : World} (hc : Cons E base ρ M w) {F : T AV} {n : Nat} {a : Act} (hf : FR ρ F n a) {fn : Func} {v : AV} (h : resultsA E M F fn = some v) :
    ∃ x, (results fn a.tmps).run E.P w = .ok x w ∧ VR ρ v x := by
  have hdef : results fn a.tmps = (do
      let vs ← fn.results.mapM (resSem a.tmps)
      pure (if h : vs.size = 1 then vs[0] else .tuple vs)) := by
    unfold results
    congr 1
  unfold resultsA at h
  have fin : ∀ l, resAll E M F fn.results.toList = some l → ∃ xs : List Value, (fn.results.mapM (resSem a.tmps)).run E.P w = .ok xs.toArray w ∧ VRs ρ l xs := by
    intro l hl
    obtain ⟨xs, h1, h2⟩ := resAll_ok hc hf _ l hl
    refine ⟨xs, ?_, h2⟩
    rw [Array.mapM_eq_mapM_toList]
    simp only [Sem.run_map, h1, Result.andThen_ok]
  split at h
  · rename_i u hu
    simp only [Option.some.injEq] at h
    subst h
    obtain ⟨xs, h1, h2⟩ := fin _ hu
    simp only [VRs] at h2
    obtain ⟨x, xs', rfl, h3, rfl⟩ := h2
    refine ⟨x, ?_, h3⟩
    rw [hdef]
    simp only [Sem.run_bind, h1, Result.andThen_ok, Sem.run_pure]
    simp
  · rename_i l hne hl
    simp only [Option.some.injEq] at h
    subst h
    obtain ⟨xs, h1, h2⟩ := fin _ hl
    have hlen := h2.length
    refine ⟨.tuple xs.toArray, ?_, by simp only [VR]; exact ⟨_, rfl, by simpa using h2⟩⟩
    rw [hdef]
    simp only [Sem.run_bind, h1, Result.andThen_ok, Sem.run_pure]
    have : ¬ xs.toArray.size = 1 := by
      intro e
      simp only [List.size_toArray] at e
      rw [e] at hlen
      obtain ⟨v, hv⟩ := List.length_eq_one_iff.1 hlen
      exact hne v hv
    rw [dif_neg this]
  · cases h

/-! Deferred calls. -/

inductive AMode where
  | ret
  | pan (ch : AChain)

def UR (ρ : Place) : AMode → FrameMode → Prop
  | .ret, .returning => True
  | .pan ch, .panicking c => CR ρ ch c
  | _, _ => False

theorem UR.mono {ρ ρ' : Place} (h : ρ.le ρ') {u : AMode} {m : FrameMode} (e : UR ρ u m) : UR ρ' u m := by
  cases u <;> cases m <;> first | exact e | exact CR.mono h e

def settleA : AMode → AMode
  | .pan ((_, true) :: _) => .ret
  | m => m

def raisedA (u : AMode) (ch : AChain) : AMode :=
  match u with
  | .pan old => .pan (ch ++ old)
  | .ret => .pan ch

theorem CR.drop {ρ : Place} : ∀ {a : AChain} {es : List PanicEntry}, CR ρ a es → es.dropWhile (!·.goexit) = []
  | [], _, e => by simp only [CR] at e; subst e; rfl
  | (v, b) :: r, es, e => by
    simp only [CR] at e
    obtain ⟨x, es', rfl, _, h3⟩ := e
    simp [CR.drop h3]

theorem CR.append {ρ : Place} : ∀ {a b : AChain} {es fs : List PanicEntry}, CR ρ a es → CR ρ b fs → CR ρ (a ++ b) (es ++ fs)
  | [], _, _, _, e, k => by simp only [CR] at e; subst e; exact k
  | (v, b) :: r, _, es, fs, e, k => by
    simp only [CR] at e
    obtain ⟨x, es', rfl, h2, h3⟩ := e
    simp only [List.cons_append, CR]
    exact ⟨x, _, rfl, h2, CR.append h3 k⟩

theorem settleA_ok {ρ : Place} {u : AMode} {m : FrameMode} (h : UR ρ u m) : UR ρ (settleA u) (settle m) := by
  cases u with
  | ret => cases m <;> first | exact h.elim | exact trivial
  | pan ch =>
    cases m with
    | panicking c =>
      cases ch with
      | nil => simp only [UR, CR] at h; subst h; simp [settleA, settle, UR, CR]
      | cons y r =>
        obtain ⟨v, b⟩ := y
        simp only [UR, CR] at h
        obtain ⟨x, es', rfl, h2, h3⟩ := h
        cases b with
        | true =>
          have : settle (.panicking ({ v := x, recovered := true } :: es')) = .returning := by
            simp only [settle]
            rw [h3.drop]
          rw [this]
          exact trivial
        | false =>
          simp only [settleA, settle, UR, CR]
          exact ⟨x, es', rfl, h2, h3⟩
    | _ => exact h.elim

theorem raisedA_ok {ρ : Place} {u : AMode} {m : FrameMode} {ch : AChain} {c : List PanicEntry} (h : UR ρ u m) (k : CR ρ ch c) : UR ρ (raisedA u ch) (raised m c) := by
  cases u with
  | ret => cases m <;> first | exact h.elim | exact k
  | pan old =>
    cases m with
    | panicking o => exact k.append h
    | _ => exact h.elim

abbrev CallD := FuncId → List AV → AMode → Mem → Option (AEnd × AMode × Mem)

def SoundD (E : Env) (base : Nat) (callD : CallD) : Prop :=
  ∀ f args u M x u' M', callD f args u M = some (x, u', M') → (∃ fn, E.fn.get f = some fn) ∧ ∀ ρ w vals m, Cons E base ρ M w → base ≤ w.heap.size → VRs ρ args vals → UR ρ u m →
    CallsD E.P f vals.toArray m w fun e m' w' => ∃ ρ', Step E base ρ w M ρ' w' M' ∧ EndR ρ' x e ∧ UR ρ' u' m'

def leavesA (E : Env) (callD : CallD) (fn : Func) (F : T AV) : List AD → AMode → Mem → Option (AEnd × Mem)
  | [], .ret, M => match resultsA E M F fn with
    | some v => some (.ret v, M)
    | none => none
  | [], .pan ch, M => some (.pan ch, M)
  | d :: ds, u, M => match d.mark with
    | some b => match M.bl.get b with
      | some (.defd true) => leavesA E callD fn F ds u ⟨M.next, M.bl.set b (.defd false)⟩
      | _ => none
    | none => match callD d.f (d.args ++ d.cap) u M with
      | some (.ret _, u', M') => leavesA E callD fn F ds (settleA u') M'
      | some (.pan ch, u', M') => leavesA E callD fn F ds (raisedA u' ch) M'
      | none => none

theorem UR.notRun {ρ : Place} {u : AMode} {m : FrameMode} (h : UR ρ u m) : m ≠ .run := by
  cases u <;> cases m <;> first | exact h.elim | simp

theorem leavesA_ok {E : Env} (OK : E.OK) {base : Nat} {callD : CallD} (hd : SoundD E base callD) {fn : Func} {F : T AV} {n : Nat} : ∀ (D : List AD) (u : AMode) (M : Mem) (x : AEnd) (M' : Mem), leavesA E callD fn F D u M = some (x, M') →
    ∀ (ρ : Place) (a : Act) (w : World) (ds : List Deferred) (m : FrameMode) (R : Ending → World → Prop), Cons E base ρ M w → base ≤ w.heap.size → FR ρ F n a → DR ρ D ds → UR ρ u m →
      (∀ ρ' w' e, Step E base ρ w M ρ' w' M' → EndR ρ' x e → R e w') → LeavesX E.P fn a.tmps R ds m w
  | [], .ret, M, x, M', h, ρ, a, w, ds, m, R, hc, hb, hf, hds, hu, hR => by
    simp only [DR] at hds
    subst hds
    cases m with
    | returning =>
      simp only [leavesA] at h
      split at h
      · rename_i v hv
        simp only [Option.some.injEq, Prod.mk.injEq] at h
        obtain ⟨rfl, rfl⟩ := h
        obtain ⟨y, h1, h2⟩ := resultsA_ok hc hf hv
        exact ⟨y, h1, hR ρ w _ (Step.refl hc) h2⟩
      · cases h
    | _ => exact hu.elim
  | [], .pan ch, M, x, M', h, ρ, a, w, ds, m, R, hc, hb, hf, hds, hu, hR => by
    simp only [DR] at hds
    subst hds
    cases m with
    | panicking c =>
      simp only [leavesA, Option.some.injEq, Prod.mk.injEq] at h
      obtain ⟨rfl, rfl⟩ := h
      exact hR ρ w _ (Step.refl hc) hu
    | _ => exact hu.elim
  | d :: D, u, M, x, M', h, ρ, a, w, ds, m, R, hc, hb, hf, hds, hu, hR => by
    simp only [DR] at hds
    obtain ⟨dd, ds', rfl, hd1, hrest⟩ := hds
    cases hmk : d.mark with
    | some bm =>
      simp only [leavesA, hmk] at h
      split at h
      · rename_i hbm
        simp only [DR1, hmk] at hd1
        obtain ⟨l, hl, ht⟩ := hd1
        obtain ⟨l', hl', h0, h1⟩ := hc.blk bm _ hbm
        rw [hl, Option.some.injEq] at hl'
        subst hl'
        have st : Step E base ρ w M ρ { w with heap := w.heap.setIfInBounds l.blk (.deferred none) } ⟨M.next, M.bl.set bm (.defd false)⟩ :=
          Step.over hc hbm hl (by simp) (fun i hi => by simp only []; rw [Array.getElem?_setIfInBounds_ne (fun e => hi e.symm)]) ⟨h0, setObj_at h1⟩ rfl rfl rfl
        refine ⟨hu.notRun, .inl ⟨l.blk, _, ht, ?_, leavesA_ok OK hd D u _ x M' h ρ a _ ds' m R st.cons (Nat.le_trans hb st.size) hf hrest hu fun ρ'' w'' e j1 j2 => hR ρ'' w'' e (st.trans j1) j2⟩⟩
        simp only [cond_true] at h1
        simp [Instr.takeDeferred, getObj, setObj, Sem.run, h1]
      · cases h
    | none =>
    simp only [DR1, hmk] at hd1
    obtain ⟨cap, ht, hcap, hargs⟩ := hd1
    have hgo : ∃ r, callD d.f (d.args ++ d.cap) u M = some r := by
      simp only [leavesA, hmk] at h
      split at h
      · exact ⟨_, by assumption⟩
      · exact ⟨_, by assumption⟩
      · cases h
    obtain ⟨⟨x1, u1, M1⟩, hcd⟩ := hgo
    obtain ⟨⟨fd, hfd⟩, hcalls⟩ := hd _ _ _ _ _ _ _ hcd
    have hvals : VRs ρ (d.args ++ d.cap) (dd.args ++ cap).toList := by simpa using hargs.append hcap
    have hC := hcalls ρ w (dd.args ++ cap).toList m hc hb hvals hu
    refine ⟨hu.notRun, .inr ⟨.func d.f, cap, d.f, dd.args ++ cap, ht, ?_, ?_⟩⟩
    · rw [ht]
      simp only [invoke]
      exact (OK.fn _ _ hfd).2 _ w
    · rw [Array.toArray_toList] at hC
      refine CallsD.mono hC fun e m' w' he => ?_
      obtain ⟨ρ', k1, k2, k3⟩ := he
      simp only [leavesA, hmk, hcd] at h
      cases x1 with
      | ret v =>
        cases e with
        | returned y =>
          exact leavesA_ok OK hd D _ M1 x M' h ρ' a w' ds' _ R k1.cons (Nat.le_trans hb k1.size) (hf.mono k1.ext) (hrest.mono k1.ext) (settleA_ok k3) fun ρ'' w'' e j1 j2 => hR ρ'' w'' e (k1.trans j1) j2
        | _ => exact k2.elim
      | pan ch =>
        cases e with
        | panicked c =>
          exact leavesA_ok OK hd D _ M1 x M' h ρ' a w' ds' _ R k1.cons (Nat.le_trans hb k1.size) (hf.mono k1.ext) (hrest.mono k1.ext) (raisedA_ok k3 k2) fun ρ'' w'' e j1 j2 => hR ρ'' w'' e (k1.trans j1) j2
        | _ => exact k2.elim

/-! Calls. -/

def callStep (E : Env) (rc : CodeF) (callD : CallD) (f : Cal) (args : List AV) (M : Mem) : Option (AEnd × Mem) :=
  match f with
  | .yld b => roundStep rc b args M
  | .fn f => match E.fn.get f with
    | some fn => match E.con f args with
      | some v => some (.ret v, M)
      | none => match fn.body with
        | some c => match rc .top (args.length + (fn.ntmps - args.length)) c ⟨T.ofList args, [], M, none⟩ with
          | some (.normal, s) => leavesA E callD fn s.F s.D .ret s.M
          | some (.ret, s) => leavesA E callD fn s.F s.D .ret s.M
          | some (.panic ch, s) => leavesA E callD fn s.F s.D (.pan ch) s.M
          | _ => none
        | none => none
    | none => none

theorem enterFR {ρ : Place} {args : List AV} {vals : List Value} (h : VRs ρ args vals) (k : Nat) (ds : List Deferred) :
    FR ρ (T.ofList args) (args.length + (k - args.length)) { tmps := vals.toArray ++ Array.replicate (k - vals.toArray.size) undef, defers := ds } := by
  have hl := h.length
  refine ⟨by simp [hl], fun t => ?_⟩
  simp only [opd, T.get_ofList]
  cases ht : args[t]? with
  | none => simp [VR]
  | some v =>
    obtain ⟨x, h1, h2⟩ := h.get t v ht
    simp only []
    have hlt : t < vals.length := by
      rcases Nat.lt_or_ge t vals.length with k | k
      · exact k
      · rw [List.getElem?_eq_none k] at h1; cases h1
    have : (vals.toArray ++ Array.replicate (k - vals.toArray.size) undef).getD t undef = x := by
      rw [Array.getD_eq_getD_getElem?, Array.getElem?_append_left (by simpa using hlt)]
      simp [h1]
    rw [this]
    exact h2

theorem callStep_ok {E : Env} (OK : E.OK) {base : Nat} {rc : CodeF} (hc : SoundCode E base rc) {callD : CallD} (hd : SoundD E base callD) : SoundCall E base (callStep E rc callD) := by
  intro f args M x M' h ρ w vals hcons hbase hargs
  unfold callStep at h
  split at h
  · exact roundStep_ok hc h hcons hbase hargs
  rename_i f
  show Calls E.P f vals.toArray w _
  split at h
  · rename_i fn hfn
    obtain ⟨hf, _⟩ := OK.fn f fn hfn
    split at h
    · rename_i v hv
      simp only [Option.some.injEq, Prod.mk.injEq] at h
      obtain ⟨rfl, rfl⟩ := h
      refine Calls.mono (OK.con f args v hv base ρ w vals hcons.glob hcons.sym hbase hargs) fun e w' he => ?_
      obtain ⟨x, rfl, h1, h2⟩ := he
      exact ⟨ρ, Step.grown hcons hbase h2, h1⟩
    split at h
    · rename_i c hbody
      have hfr := enterFR hargs fn.ntmps []
      have hsr : SR E base none ρ ⟨T.ofList args, [], M, none⟩ (args.length + (fn.ntmps - args.length)) { tmps := vals.toArray ++ Array.replicate (fn.ntmps - vals.toArray.size) undef, defers := [] } w :=
        ⟨hcons, hfr, rfl, hbase, trivial⟩
      refine calls_of_wp_marks hf hbody ?_
      have go : ∀ (y : AExit) (s : St) (u : AMode), rc .top (args.length + (fn.ntmps - args.length)) c ⟨T.ofList args, [], M, none⟩ = some (y, s) → leavesA E callD fn s.F s.D u s.M = some (x, M') →
          (∀ ρ' e, XR ρ' y e → (∃ m, UR ρ' u m ∧ ∀ a' w', LeavesX E.P fn a'.tmps (fun e w' => ∃ ρ', Step E base ρ w M ρ' w' M' ∧ EndR ρ' x e) a'.defers m w' →
            bodyPostX E.P fn (fun e w' => ∃ ρ', Step E base ρ w M ρ' w' M' ∧ EndR ρ' x e) e a' w')) →
          c.wp E.P (bodyPostX E.P fn fun e w' => ∃ ρ', Step E base ρ w M ρ' w' M' ∧ EndR ρ' x e) { tmps := vals.toArray ++ Array.replicate (fn.ntmps - vals.toArray.size) undef, defers := [] } w := by
        intro y s u hy hl hx
        refine (wpIn_wide (n := 0)).1 (hc.top (rd := none) hy _ ρ _ w hsr fun ρ' a' w' e k1 k2 k3 => ?_)
        obtain ⟨m, hm, hfin⟩ := hx ρ' e k3
        refine hfin a' w' (leavesA_ok OK hd s.D u s.M x M' hl ρ' a' w' a'.defers m _ k2.cons k2.base k2.fr k2.dr hm fun ρ'' w'' e' j1 j2 => ⟨ρ'', k1.trans j1, j2⟩)
      split at h
      · rename_i s hy
        refine go .normal s .ret hy h fun ρ' e he => ⟨.returning, trivial, fun a' w' hl => ?_⟩
        cases e with
        | normal => exact hl
        | _ => exact he.elim
      · rename_i s hy
        refine go .ret s .ret hy h fun ρ' e he => ⟨.returning, trivial, fun a' w' hl => ?_⟩
        cases e with
        | ret => exact hl
        | _ => exact he.elim
      · rename_i ch s hy
        refine go (.panic ch) s (.pan ch) hy h fun ρ' e he => ?_
        cases e with
        | panic c => exact ⟨.panicking c, he, fun a' w' hl => hl⟩
        | _ => exact he.elim
      · cases h
    · cases h
  · cases h

end Go.Proofs.YtiamenedboifeabGreatDoor.Rx

/- A reflective evaluator of the model's code, part V: a range over a function that never yields; a function that leaves with the marks of such ranges. -/
import Derived.Test.YtiamenedboifeabGreatDoorRxO
import Derived.RangeFuncLeaves
namespace Go.Proofs.YtiamenedboifeabGreatDoor.Rx

/-! The statement. -/

theorem wp_rangeFunc0 {P : Program} {g : Operand} {ps : Array Tmp} {assign body : Code} {Q : Exit → Act → World → Prop} {a : Act} {w : World}
    (h : ∀ fn, ∃ (l : Nat) (mark : List Deferred) (w₁ : World) (d : Deferred) (w₁' : World) (f : FuncId) (args : Array Value) (w₂ : World),
      (Instr.enterLoop fn a.tmps ps assign body none).run P w = .ok (l, mark) w₁ ∧
      (resolve a.eval (rangeCall g l) 0).run P w₁ = .ok d w₁' ∧
      (invoke d.target d.args).run P w₁' = .ok (.enter f args) w₂ ∧
      Calls P f args w₂ fun e w₃ => (∃ v, e = .returned v) ∧ ∃ w₄, (Instr.endLoop l).run P w₃ = .ok none w₄ ∧ Q .normal { a with defers := mark ++ a.defers } w₄) :
    (Code.rangeFunc g ps assign body).wp P Q a w := by
  intro b k cs
  obtain ⟨l, mark, w₁, d, w₁', f, args, w₂, he, hres, hinv, hcall⟩ := h b.fn
  have s1 : step P (lone (b.at a (.code (.rangeFunc g ps assign body) :: k)) cs w) = .next (lone (Frame.enter P f args .normal) (b.at { a with defers := mark ++ a.defers } (.inRangeFunc l :: k) :: cs) w₂) :=
    stepR_rangeFunc (b := { b with roundOf := none }) he hres hinv
  obtain ⟨e, w₃, fr, ⟨⟨v, rfl⟩, w₄, hend, hq⟩, hsteps, hfn, hleave⟩ := hcall (b.at { a with defers := mark ++ a.defers } (.inRangeFunc l :: k) :: cs)
  have s2 := step_leave_returned (c := b.at { a with defers := mark ++ a.defers } (.inRangeFunc l :: k)) (cs := cs) hleave
  have e2 : (b.at { a with defers := mark ++ a.defers } (.inRangeFunc l :: k)).finish v = b.at { a with defers := mark ++ a.defers } (.endRangeFunc l :: k) :=
    finish_atR_inRangeFunc (b := { b with roundOf := none }) l v
  rw [e2] at s2
  have s3 : step P (lone (b.at { a with defers := mark ++ a.defers } (.endRangeFunc l :: k)) cs w₃) = .next (lone (b.at { a with defers := mark ++ a.defers } k) cs w₄) :=
    stepR_endRangeFunc (b := { b with roundOf := none }) (jump := none) hend
  exact ⟨.normal, _, w₄, hq, Steps.trans (.one s1) (Steps.trans hsteps (Steps.trans (.one s2) (.one s3)))⟩

/-! Leaving. -/

def LeavesX (P : Program) (fn : Func) (tmps : Array Value) (R : Ending → World → Prop) : List Deferred → FrameMode → World → Prop
  | [], u, w => Leaves P fn tmps R [] u w
  | d :: ds, u, w => u ≠ .run ∧
      ((∃ r w', d.target = .collected r ∧ (Instr.takeDeferred r).run P w = .ok [] w' ∧ LeavesX P fn tmps R ds u w') ∨
       (∃ fv cap f args, d.target = .fn fv cap ∧ (invoke d.target d.args).run P w = .ok (.enter f args) w ∧
        CallsD P f args u w fun
          | .returned _, u', w' => LeavesX P fn tmps R ds (settle u') w'
          | .panicked chain, u', w' => LeavesX P fn tmps R ds (raised u' chain) w'
          | .outgrown, _, w' => R .outgrown w'))

theorem leavesX_steps {P : Program} {fn : Func} {tmps : Array Value} {R : Ending → World → Prop} : ∀ (ds : List Deferred) (u : FrameMode) (w : World) (fr : Frame)
    (cs : List Frame), fr.mode = u → fr.defers = ds → fr.tmps = tmps → P.funcs[fr.fn]? = some fn → fr.kind = .normal → LeavesX P fn tmps R ds u w →
    ∃ e w' fr', R e w' ∧ Comes P (lone fr cs w) (lone fr' cs w') e ∧ fr'.fn = fr.fn ∧ fr'.leaving P w' e := by
  intro ds
  induction ds with
  | nil => exact fun u w fr cs hu hd ht hf hk h => leaves_steps [] u w fr cs hu hd ht hf hk h
  | cons d ds ih =>
    intro u w fr cs hu hd ht hf hk h
    obtain ⟨hrun, h⟩ := h
    rcases h with ⟨r, w', htar, htake, hrest⟩ | ⟨fv, cap, f, args, htar, hinv, hcall⟩
    · have h1 := step_collected (cs := cs) (hu ▸ hrun) hd htar htake
      obtain ⟨e', w'', fr', hR', hs', hfn', hl'⟩ := ih u w' { fr with defers := [] ++ ds } cs hu rfl ht hf hk hrest
      exact ⟨e', w'', fr', hR', Comes.of_steps (.one h1) hs', hfn', hl'⟩
    · have h1 := step_defer (cs := cs) (hu ▸ hrun) hd htar hinv
      obtain ⟨e, u', w', frX, hR, hsteps, hkX, hgo⟩ := hcall { fr with defers := ds } cs hu
      cases e with
      | returned v =>
        have h2 := step_going_returned (c := { { fr with defers := ds } with mode := u' }) (cs := cs) hkX hgo
        obtain ⟨e', w'', fr', hR', hs', hfn', hl'⟩ := ih (settle u') w' { { { fr with defers := ds } with mode := u' } with mode := settle u' } cs rfl rfl ht hf hk hR
        exact ⟨e', w'', fr', hR', Comes.of_steps (.head h1 (Steps.trans hsteps (.one h2))) hs', hfn', hl'⟩
      | panicked chain =>
        have h2 := step_going_panicked (c := { { fr with defers := ds } with mode := u' }) (cs := cs) hgo
        obtain ⟨e', w'', fr', hR', hs', hfn', hl'⟩ := ih (raised u' chain) w' { { { fr with defers := ds } with mode := u' } with mode := raised u' chain } cs rfl rfl ht hf hk hR
        exact ⟨e', w'', fr', hR', Comes.of_steps (.head h1 (Steps.trans hsteps (.one h2))) hs', hfn', hl'⟩
      | outgrown => exact ⟨.outgrown, w', fr, hR, Outgrown.of_steps (.one h1) hsteps, rfl, trivial⟩

def bodyPostX (P : Program) (fn : Func) (R : Ending → World → Prop) : Exit → Act → World → Prop
  | .normal, a, w | .ret, a, w => LeavesX P fn a.tmps R a.defers .returning w
  | .panic chain, a, w => LeavesX P fn a.tmps R a.defers (.panicking chain) w
  | .outgrown, _, w => R .outgrown w
  | _, _, _ => False

theorem calls_of_wp_marks {P : Program} {f : FuncId} {fn : Func} {c : Code} {args : Array Value} {w : World} {R : Ending → World → Prop}
    (hf : P.funcs[f]? = some fn) (hb : fn.body = some c)
    (h : c.wp P (bodyPostX P fn R) { tmps := args ++ Array.replicate (fn.ntmps - args.size) undef, defers := [] } w) : Calls P f args w R := by
  intro cs
  let b : Frame := { (default : Frame) with fn := f, kind := .normal }
  have henter : Frame.enter P f args .normal = b.at { tmps := args ++ Array.replicate (fn.ntmps - args.size) undef, defers := [] } [.code c] := by
    simp [Frame.enter, Frame.at, hf, hb, b]
  obtain ⟨e, a', w', hq, harr⟩ := h b [] cs
  rw [← henter] at harr
  cases e with
  | normal =>
    obtain ⟨e', w'', fr', hR, hs, hfn, hl⟩ := leavesX_steps a'.defers .returning w' { b.at a' [] with mode := .returning } cs rfl rfl rfl hf rfl hq
    exact ⟨e', w'', fr', hR, Comes.of_steps (Steps.trans harr (.one step_end)) hs, hfn, hl⟩
  | ret =>
    obtain ⟨todo, hs₀⟩ := harr
    obtain ⟨e', w'', fr', hR, hs, hfn, hl⟩ := leavesX_steps a'.defers .returning w' { b.at a' todo with mode := .returning } cs rfl rfl rfl hf rfl hq
    exact ⟨e', w'', fr', hR, Comes.of_steps hs₀ hs, hfn, hl⟩
  | panic chain =>
    obtain ⟨todo, hs₀⟩ := harr
    obtain ⟨e', w'', fr', hR, hs, hfn, hl⟩ := leavesX_steps a'.defers (.panicking chain) w' { b.at a' todo with mode := .panicking chain } cs rfl rfl rfl hf rfl hq
    exact ⟨e', w'', fr', hR, Comes.of_steps hs₀ hs, hfn, hl⟩
  | exit id => exact hq.elim
  | goto l => exact hq.elim
  | outgrown => exact ⟨.outgrown, w', b, hq, harr.resolve_left (by simp [b]), rfl, trivial⟩

/-! Blocks that the memory does not speak of. -/

/-- A new block that the memory does not speak of. -/
theorem Step.extra {E : Env} {base : Nat} {ρ : Place} {M : Mem} {w : World} (hc : Cons E base ρ M w) (hbase : base ≤ w.heap.size) (o : Obj) : Step E base ρ w M ρ (w.alloc o) M where
  ext := .refl ρ
  cons := {
    blk := fun b x hx => by
      obtain ⟨l, hl, hbr⟩ := hc.blk b x hx
      exact ⟨l, hl, hbr.congr ((alloc_old w o).2 _ hbr.here)⟩
    inj := hc.inj
    bound := hc.bound
    low := hc.low
    glob := hc.glob.mono fun k hk => (alloc_old w o).2 k (Nat.lt_of_lt_of_le hk hbase)
    sym := hc.sym }
  frame k hk _ := (alloc_old w o).2 k hk
  size := by rw [(alloc_old w o).1]; omega
  img b x l hb hl := .inr ⟨b, x, l, hb, hl, rfl⟩
  fresh _ _ h := .inl h
  next := Nat.le_refl _
  os := rfl
  tape := rfl
  output := rfl

/-- A block that came in this step, and that the memory does not speak of, is overwritten. -/
theorem Step.spoil {E : Env} {base : Nat} {ρ ρ' : Place} {M M' : Mem} {w w' w'' : World} (h : Step E base ρ w M ρ' w' M') (hbase : base ≤ w.heap.size) {k0 : Nat} (hk : w.heap.size ≤ k0)
    (hn : ∀ b x l, M'.bl.get b = some x → ρ' b = some l → l.blk ≠ k0) (hsz : w''.heap.size = w'.heap.size) (hold : ∀ k, k ≠ k0 → w''.heap[k]? = w'.heap[k]?)
    (h1 : w''.os = w'.os) (h2 : w''.tape = w'.tape) (h3 : w''.output = w'.output) : Step E base ρ w M ρ' w'' M' where
  ext := h.ext
  cons := {
    blk := fun b x hx => by
      obtain ⟨l, hl, hbr⟩ := h.cons.blk b x hx
      exact ⟨l, hl, hbr.congr (hold _ (hn b x l hx hl))⟩
    inj := h.cons.inj
    bound := h.cons.bound
    low := h.cons.low
    glob := h.cons.glob.mono fun k hk => hold k (by omega)
    sym := h.cons.sym }
  frame k hk' hn' := by rw [hold k (by omega)]; exact h.frame k hk' hn'
  size := by rw [hsz]; exact h.size
  img := h.img
  fresh := h.fresh
  next := h.next
  os := h1.trans h.os
  tape := h2.trans h.tape
  output := h3.trans h.output

/-- The world has grown; the memory does not speak of what came. -/
theorem Step.grown {E : Env} {base : Nat} {ρ : Place} {M : Mem} {w w' : World} (hc : Cons E base ρ M w) (hbase : base ≤ w.heap.size) (hb : RowKit.Below w.heap.size w w') : Step E base ρ w M ρ w' M where
  ext := .refl ρ
  cons := {
    blk := fun b x hx => by
      obtain ⟨l, hl, hbr⟩ := hc.blk b x hx
      exact ⟨l, hl, hbr.congr (hb.block _ hbr.here)⟩
    inj := hc.inj
    bound := hc.bound
    low := hc.low
    glob := hc.glob.mono fun k hk => hb.block k (Nat.lt_of_lt_of_le hk hbase)
    sym := hc.sym }
  frame k hk _ := hb.block k hk
  size := hb.size
  img b x l hb hl := .inr ⟨b, x, l, hb, hl, rfl⟩
  fresh _ _ h := .inl h
  next := Nat.le_refl _
  os := hb.os
  tape := hb.tape
  output := hb.output

end Go.Proofs.YtiamenedboifeabGreatDoor.Rx

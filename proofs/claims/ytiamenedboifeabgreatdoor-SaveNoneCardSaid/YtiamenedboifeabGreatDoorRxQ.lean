/- A reflective evaluator of the model's code, part Q: deferred functions that recover; the evaluator; a closed call. -/
import Derived.Test.YtiamenedboifeabGreatDoorRxP
namespace Go.Proofs.YtiamenedboifeabGreatDoor.Rx

def isRec : Op → Bool
  | .call c => match c.callee with
    | .builtin .recover => true
    | _ => false
  | _ => false

/-- What recover answers, and what the panic is then. -/
def recA : AMode → AV × AMode
  | .pan ((v, false) :: r) => (v, .pan ((v, true) :: r))
  | u => (.lit .nilIface, u)

def opsS (E : Env) (callF : CallF) (n : Nat) (ops : Array Oper) : List Nat → St → AMode → Option (AExit × St × AMode)
  | [], s, u => some (.normal, s, u)
  | i :: r, s, u => match ops[i]? with
    | none => none
    | some o => match wantA ops s.F o with
      | none => none
      | some false => match put s.F n o.dst (.lit undef) with
        | some F' => opsS E callF n ops r { s with F := F' } u
        | none => none
      | some true => match isRec o.op with
        | true => match put s.F n o.dst (recA u).1 with
          | some F' => opsS E callF n ops r { s with F := F' } (recA u).2
          | none => none
        | false => match opC E callF s.M s.F o with
          | none => none
          | some (.val v M') => match put s.F n o.dst v with
            | some F' => opsS E callF n ops r { s with F := F', M := M' } u
            | none => none
          | some (.pan ch M') => some (.panic ch, { s with M := M' }, u)
          | some (.dfr d) => match put s.F n o.dst (.lit undef) with
            | some F' => opsS E callF n ops r { s with F := F', D := d :: s.D } u
            | none => none

def evalS (E : Env) (callF : CallF) (rc : CodeF) (n : Nat) : Code → St → AMode → Option (AExit × St × AMode)
  | .seq a b, s, u => match evalS E callF rc n a s u with
    | some (.normal, s1, u1) => evalS E callF rc n b s1 u1
    | r => r
  | .cond c a b, s, u => match opd s.F c with
    | .lit (.bool true) => evalS E callF rc n a s u
    | .lit (.bool false) => evalS E callF rc n b s u
    | _ => none
  | .region _ ops false, s, u => opsS E callF n ops (List.range ops.size) s u
  | c, s, u => match rc .top n c s with
    | some (x, s') => some (x, s', u)
    | none => none

def BehindS (E : Env) (base : Nat) (ρ : Place) (w : World) (M : Mem) (n : Nat) (c₀ : Frame) (cs : List Frame) (x : AExit) (s' : St) (u' : AMode) (Q : Exit → Act → List Frame → World → Prop) : Prop :=
  ∀ ρ' a' w' e m', Step E base ρ w M ρ' w' s'.M → SR E base none ρ' s' n a' w' → XR ρ' x e → UR ρ' u' m' → Q e a' ({ c₀ with mode := m' } :: cs) w'

theorem BehindS.step {E : Env} {base : Nat} {ρ ρ' : Place} {w w' : World} {M M' : Mem} {n : Nat} {c₀ : Frame} {cs : List Frame} {x : AExit} {s' : St} {u' : AMode} {Q : Exit → Act → List Frame → World → Prop}
    (h : BehindS E base ρ w M n c₀ cs x s' u' Q) (k : Step E base ρ w M ρ' w' M') : BehindS E base ρ' w' M' n c₀ cs x s' u' Q :=
  fun _ a'' w'' e m' h1 h2 h3 h4 => h _ a'' w'' e m' (k.trans h1) h2 h3 h4

theorem recA_ok {ρ : Place} {u : AMode} {m : FrameMode} (h : UR ρ u m) (c₀ : Frame) (cs : List Frame) :
    (∃ x m', recoverD ({ c₀ with mode := m } :: cs) = some (x, { c₀ with mode := m' } :: cs) ∧ VR ρ (recA u).1 x ∧ UR ρ (recA u).2 m') ∨
    (recoverD ({ c₀ with mode := m } :: cs) = none ∧ VR ρ (recA u).1 .nilIface ∧ UR ρ (recA u).2 m) := by
  cases u with
  | ret =>
    cases m with
    | returning => exact .inr ⟨rfl, by simp [recA, VR], trivial⟩
    | _ => exact h.elim
  | pan ch =>
    cases m with
    | panicking c =>
      cases ch with
      | nil =>
        simp only [UR, CR] at h
        subst h
        exact .inr ⟨rfl, by simp [recA, VR], by simp [recA, UR, CR]⟩
      | cons y r =>
        obtain ⟨v, b⟩ := y
        simp only [UR, CR] at h
        obtain ⟨x, es', rfl, h2, h3⟩ := h
        cases b with
        | false =>
          refine .inl ⟨x, .panicking ({ v := x, recovered := true } :: es'), rfl, h2, ?_⟩
          simp only [recA, UR, CR]
          exact ⟨x, es', rfl, h2, h3⟩
        | true =>
          refine .inr ⟨rfl, by simp [recA, VR], ?_⟩
          simp only [recA, UR, CR]
          exact ⟨x, es', rfl, h2, h3⟩
    | _ => exact h.elim

theorem run_recover {P : Program} {ρ : Operand → Value} {o : Oper} (h : isRec o.op = true) (w : World) : (execOp ρ o).run P w = .ok .recover w := by
  unfold isRec at h
  split at h
  · rename_i c ho
    split at h
    · rename_i hcal
      obtain ⟨consts, hex⟩ := exec_builtin (ρ := ρ) (P := P) ho hcal w
      rw [hex]
      rfl
    · cases h
  · cases h

/-- An operation that is no recover, where a recover might stand. -/
theorem wpOpsS_of_wp {P : Program} {ops : Array Oper} {Q : Exit → Act → List Frame → World → Prop} {i : Nat} {rest : List Nat} {o : Oper} {a : Act} {cs : List Frame} {w : World} (ho : ops[i]? = some o)
    (hw : Region.wanted o (yielded ops a.tmps) = true) (h : o.wp P a w (fun a' w' => wpOpsS P ops Q rest a' cs w') fun e a' w' => Q e a' cs w') : wpOpsS P ops Q (i :: rest) a cs w := by
  simp only [wpOpsS, ho, hw, if_true]
  unfold Oper.wp at h
  split
  · rename_i w' hr
    rw [hr] at h
    exact h.elim
  · exact h

theorem opsS_ok {E : Env} (OK : E.OK) {base : Nat} {callF : CallF} (hy : ¬ Yields1 callF) (hs : SoundCall E base callF) (hent : ∀ f args M x, callF (.fn f) args M = some x → ∃ fn, E.fn.get f = some fn) {n : Nat} {ops : Array Oper}
    {Q : Exit → Act → List Frame → World → Prop} {c₀ : Frame} {cs : List Frame} : ∀ (l : List Nat) (s : St) (u : AMode) (x : AExit) (s' : St) (u' : AMode), opsS E callF n ops l s u = some (x, s', u') → ∀ (ρ : Place) (a : Act) (w : World) (m : FrameMode), SR E base none ρ s n a w →
      UR ρ u m → BehindS E base ρ w s.M n c₀ cs x s' u' Q → wpOpsS E.P ops Q l a ({ c₀ with mode := m } :: cs) w
  | [], s, u, x, s', u', h, ρ, a, w, m, hr, hu, hb => by
    simp only [opsS, Option.some.injEq, Prod.mk.injEq] at h
    obtain ⟨rfl, rfl, rfl⟩ := h
    exact hb ρ a w .normal m (Step.refl hr.cons) hr trivial hu
  | i :: r, s, u, x, s', u', h, ρ, a, w, m, hr, hu, hb => by
    simp only [opsS] at h
    split at h
    · cases h
    · rename_i o ho
      split at h
      · cases h
      · rename_i hw
        simp only [wpOpsS, ho]
        rw [wantA_ok hr.fr hw]
        simp only [Bool.false_eq_true, if_false]
        split at h
        · rename_i F' hF
          exact opsS_ok OK hy hs hent r _ u x s' u' h ρ _ w m ⟨hr.cons, hr.fr.put (by simp [VR]) hF, by rw [put_defers]; exact hr.dr, hr.base, hr.rd⟩ hu hb
        · cases h
      · rename_i hw
        have hwant := wantA_ok hr.fr hw
        split at h
        · rename_i hrec
          split at h
          · rename_i F' hF
            simp only [wpOpsS, ho, hwant, if_true, run_recover hrec]
            rcases recA_ok hu c₀ cs with ⟨y, m', h1, h2, h3⟩ | ⟨h1, h2, h3⟩
            · rw [h1]
              exact opsS_ok OK hy hs hent r _ _ x s' u' h ρ _ w m' ⟨hr.cons, hr.fr.put h2 hF, by rw [put_defers]; exact hr.dr, hr.base, hr.rd⟩ h3 hb
            · rw [h1]
              exact opsS_ok OK hy hs hent r _ _ x s' u' h ρ _ w m ⟨hr.cons, hr.fr.put h2 hF, by rw [put_defers]; exact hr.dr, hr.base, hr.rd⟩ h3 hb
          · cases h
        · refine wpOpsS_of_wp ho hwant ?_
          split at h
          · cases h
          · rename_i v M' hv
            split at h
            · rename_i F' hF
              refine Up.wp (opC_ok OK hs hent hr.cons hr.base hr.fr hv fun ρ' y w' h1 h2 => ?_) hy
              exact opsS_ok OK hy hs hent r _ u x s' u' h ρ' _ w' m ⟨h1.cons, (hr.fr.mono h1.ext).put h2 hF, by rw [put_defers]; exact hr.dr.mono h1.ext, Nat.le_trans hr.base h1.size, hr.rd.mono h1.ext⟩ (hu.mono h1.ext) (hb.step h1)
            · cases h
          · rename_i ch M' hv
            simp only [Option.some.injEq, Prod.mk.injEq] at h
            obtain ⟨rfl, rfl, rfl⟩ := h
            refine Up.wp (opC_ok OK hs hent hr.cons hr.base hr.fr hv fun ρ' chain w' h1 h2 => ?_) hy
            exact hb ρ' a w' (.panic chain) m h1 ⟨h1.cons, hr.fr.mono h1.ext, hr.dr.mono h1.ext, Nat.le_trans hr.base h1.size, hr.rd.mono h1.ext⟩ h2 (hu.mono h1.ext)
          · rename_i d hv
            split at h
            · rename_i F' hF
              refine Up.wp (opC_ok OK hs hent hr.cons hr.base hr.fr hv fun dd h1 => ?_) hy
              have hfr : FR ρ s.F n { a with defers := dd :: a.defers } := ⟨hr.fr.size, hr.fr.get⟩
              refine opsS_ok OK hy hs hent r _ u x s' u' h ρ _ w m ⟨hr.cons, hfr.put (by simp [VR]) hF, ?_, hr.base, hr.rd⟩ hu hb
              rw [put_defers]
              exact ⟨dd, a.defers, rfl, h1, hr.dr⟩
            · cases h

theorem evalS_ok {E : Env} (OK : E.OK) {base : Nat} {callF : CallF} (hy : ¬ Yields1 callF) (hs : SoundCall E base callF) (hent : ∀ f args M x, callF (.fn f) args M = some x → ∃ fn, E.fn.get f = some fn) {rc : CodeF} (hc : SoundCode E base rc) {n : Nat}
    {c₀ : Frame} {cs : List Frame} : ∀ (c : Code) (s : St) (u : AMode) (x : AExit) (s' : St) (u' : AMode), evalS E callF rc n c s u = some (x, s', u') → ∀ (Q : Exit → Act → List Frame → World → Prop) (ρ : Place) (a : Act) (w : World) (m : FrameMode), SR E base none ρ s n a w →
      UR ρ u m → BehindS E base ρ w s.M n c₀ cs x s' u' Q → c.wpS E.P Q a ({ c₀ with mode := m } :: cs) w := by
  have other : ∀ (c : Code) (s : St) (u : AMode) (x : AExit) (s' : St) (u' : AMode), (match rc .top n c s with | some (x, s') => some (x, s', u) | none => none) = some (x, s', u') → ∀ (Q : Exit → Act → List Frame → World → Prop) (ρ : Place) (a : Act) (w : World) (m : FrameMode), SR E base none ρ s n a w →
      UR ρ u m → BehindS E base ρ w s.M n c₀ cs x s' u' Q → c.wpS E.P Q a ({ c₀ with mode := m } :: cs) w := by
    intro c s u x s' u' h Q ρ a w m hr hu hb
    split at h
    · rename_i y t hz
      simp only [Option.some.injEq, Prod.mk.injEq] at h
      obtain ⟨rfl, rfl, rfl⟩ := h
      refine wpS_of_wp ((wpIn_wide (n := 0)).1 (hc.top (rd := none) hz _ ρ a w hr fun ρ' a' w' e k1 k2 k3 => ?_))
      exact hb ρ' a' w' e m k1 k2 k3 (hu.mono k1.ext)
    · cases h
  intro c
  induction c with
  | seq c1 c2 ih1 ih2 =>
    intro s u x s' u' h Q ρ a w m hr hu hb
    simp only [evalS] at h
    refine wpS_seq ?_
    split at h
    · rename_i s1 u1 h1
      refine ih1 s u _ s1 u1 h1 _ ρ a w m hr hu fun ρ' a' w' e m' k1 k2 k3 k4 => ?_
      cases e with
      | normal => exact ih2 s1 u1 x s' u' h Q ρ' a' w' m' k2 k4 (hb.step k1)
      | _ => exact k3.elim
    · rename_i hne
      refine ih1 s u x s' u' h _ ρ a w m hr hu fun ρ' a' w' e m' k1 k2 k3 k4 => ?_
      have := hb ρ' a' w' e m' k1 k2 k3 k4
      cases e with
      | normal =>
        cases x with
        | normal => exact absurd h (hne s' u')
        | _ => exact k3.elim
      | _ => exact this
  | cond cc c1 c2 ih1 ih2 =>
    intro s u x s' u' h Q ρ a w m hr hu hb
    simp only [evalS] at h
    have hv := hr.fr.eval cc
    split at h
    · rename_i ht
      rw [ht] at hv
      exact wpS_cond (t := true) hv (ih1 s u x s' u' h Q ρ a w m hr hu hb)
    · rename_i ht
      rw [ht] at hv
      exact wpS_cond (t := false) hv (ih2 s u x s' u' h Q ρ a w m hr hu hb)
    · cases h
  | region id ops draw =>
    intro s u x s' u' h Q ρ a w m hr hu hb
    cases draw with
    | false =>
      simp only [evalS] at h
      exact wpS_region (opsS_ok OK hy hs hent _ s u x s' u' h ρ a w m hr hu hb)
    | true =>
      simp only [evalS] at h
      exact other _ s u x s' u' h Q ρ a w m hr hu hb
  | _ =>
    intro s u x s' u' h Q ρ a w m hr hu hb
    simp only [evalS] at h
    exact other _ s u x s' u' h Q ρ a w m hr hu hb

/-- Calls, no yields. -/
def noY (callF : CallF) : CallF := fun c args M => match c with
  | .fn f => callF (.fn f) args M
  | .yld _ => none

theorem noY_none (callF : CallF) : ¬ Yields1 (noY callF) := fun ⟨_, _, _, _, h⟩ => by simp [noY] at h

theorem noY_ok {E : Env} {base : Nat} {callF : CallF} (hs : SoundCall E base callF) : SoundCall E base (noY callF) := by
  intro c args M x M' h
  cases c with
  | fn f => exact hs (.fn f) args M x M' h
  | yld b => simp [noY] at h

def calldStep (E : Env) (callF : CallF) (rc : CodeF) (f : FuncId) (args : List AV) (u : AMode) (M : Mem) : Option (AEnd × AMode × Mem) :=
  match E.fn.get f with
  | some fn => match fn.body with
    | some c => match evalS E (noY callF) rc (args.length + (fn.ntmps - args.length)) c ⟨T.ofList args, [], M, none⟩ u with
      | some (.normal, ⟨F, [], M', _⟩, u') => match resultsA E M' F fn with
        | some v => some (.ret v, u', M')
        | none => none
      | some (.ret, ⟨F, [], M', _⟩, u') => match resultsA E M' F fn with
        | some v => some (.ret v, u', M')
        | none => none
      | some (.panic ch, ⟨_, [], M', _⟩, u') => some (.pan ch, u', M')
      | _ => none
    | none => none
  | none => none

theorem calldStep_ok {E : Env} (OK : E.OK) {base : Nat} {callF : CallF} (hs : SoundCall E base callF) (hent : ∀ f args M x, callF (.fn f) args M = some x → ∃ fn, E.fn.get f = some fn) {rc : CodeF} (hc : SoundCode E base rc) :
    SoundD E base (calldStep E callF rc) := by
  intro f args u M x u' M' h
  unfold calldStep at h
  split at h
  · rename_i fn hfn
    refine ⟨⟨fn, hfn⟩, fun ρ w vals m hcons hbase hargs hu => ?_⟩
    obtain ⟨hf, _⟩ := OK.fn f fn hfn
    split at h
    · rename_i c hbody
      have hfr := enterFR hargs fn.ntmps []
      have hsr : SR E base none ρ ⟨T.ofList args, [], M, none⟩ (args.length + (fn.ntmps - args.length)) { tmps := vals.toArray ++ Array.replicate (fn.ntmps - vals.toArray.size) undef, defers := [] } w :=
        ⟨hcons, hfr, rfl, hbase, trivial⟩
      refine callsD_of_wpS hf hbody fun c₀ cs hm => ?_
      have hc₀ : c₀ = { c₀ with mode := m } := by subst hm; rfl
      rw [hc₀]
      split at h
      · rename_i F M1 rd1 u1 hy
        split at h
        · rename_i v hv
          simp only [Option.some.injEq, Prod.mk.injEq] at h
          obtain ⟨rfl, rfl, rfl⟩ := h
          refine evalS_ok OK (noY_none callF) (noY_ok hs) (fun f args M x h => hent f args M x h) hc c _ u _ _ _ hy _ ρ _ w m hsr hu fun ρ' a' w' e m' k1 k2 k3 k4 => ?_
          cases e with
          | normal =>
            obtain ⟨y, h1, h2⟩ := resultsA_ok k2.cons k2.fr hv
            exact ⟨k2.dr, m', rfl, y, h1, ρ', k1, h2, k4⟩
          | _ => exact k3.elim
        · cases h
      · rename_i F M1 rd1 u1 hy
        split at h
        · rename_i v hv
          simp only [Option.some.injEq, Prod.mk.injEq] at h
          obtain ⟨rfl, rfl, rfl⟩ := h
          refine evalS_ok OK (noY_none callF) (noY_ok hs) (fun f args M x h => hent f args M x h) hc c _ u _ _ _ hy _ ρ _ w m hsr hu fun ρ' a' w' e m' k1 k2 k3 k4 => ?_
          cases e with
          | ret =>
            obtain ⟨y, h1, h2⟩ := resultsA_ok k2.cons k2.fr hv
            exact ⟨k2.dr, m', rfl, y, h1, ρ', k1, h2, k4⟩
          | _ => exact k3.elim
        · cases h
      · rename_i ch F M1 rd1 u1 hy
        simp only [Option.some.injEq, Prod.mk.injEq] at h
        obtain ⟨rfl, rfl, rfl⟩ := h
        refine evalS_ok OK (noY_none callF) (noY_ok hs) (fun f args M x h => hent f args M x h) hc c _ u _ _ _ hy _ ρ _ w m hsr hu fun ρ' a' w' e m' k1 k2 k3 k4 => ?_
        cases e with
        | panic ch' => exact ⟨k2.dr, m', rfl, ρ', k1, k3, k4⟩
        | _ => exact k3.elim
      · cases h
    · cases h
  · cases h

/-! The evaluator. -/

inductive Job where
  | code (ctx : Ctx) (n : Nat) (c : Code) (s : St)
  | call (f : Cal) (args : List AV) (M : Mem)
  | calld (f : FuncId) (args : List AV) (u : AMode) (M : Mem)

inductive Out where
  | code (x : AExit) (s : St)
  | call (x : AEnd) (M : Mem)
  | calld (x : AEnd) (u : AMode) (M : Mem)

def codeOf (rec : Job → Option Out) : CodeF := fun ctx n c s => match rec (.code ctx n c s) with
  | some (.code x s') => some (x, s')
  | _ => none

def callOf (rec : Job → Option Out) : CallF := fun f args M => match rec (.call f args M) with
  | some (.call x M') => some (x, M')
  | _ => none

def calldOf (rec : Job → Option Out) : CallD := fun f args u M => match rec (.calld f args u M) with
  | some (.calld x u' M') => some (x, u', M')
  | _ => none

def eval (E : Env) : Nat → Job → Option Out
  | 0, _ => none
  | k + 1, j => match j with
    | .code ctx n c s => match codeStep E (callOf (eval E k)) (codeOf (eval E k)) ctx n c s with
      | some (x, s') => some (.code x s')
      | none => none
    | .call f args M => match callStep E (codeOf (eval E k)) (calldOf (eval E k)) f args M with
      | some (x, M') => some (.call x M')
      | none => none
    | .calld f args u M => match calldStep E (callOf (eval E k)) (codeOf (eval E k)) f args u M with
      | some (x, u', M') => some (.calld x u' M')
      | none => none

theorem callStep_enters {E : Env} {rc : CodeF} {callD : CallD} {f : FuncId} {args : List AV} {M : Mem} {x : AEnd × Mem} (h : callStep E rc callD (.fn f) args M = some x) : ∃ fn, E.fn.get f = some fn := by
  unfold callStep at h
  simp only [] at h
  split at h
  · exact ⟨_, by assumption⟩
  · cases h

theorem eval_ok {E : Env} (OK : E.OK) (base : Nat) : ∀ k, SoundCode E base (codeOf (eval E k)) ∧ SoundCall E base (callOf (eval E k)) ∧ SoundD E base (calldOf (eval E k)) ∧
    ∀ f args M x, callOf (eval E k) (.fn f) args M = some x → ∃ fn, E.fn.get f = some fn
  | 0 => by
    refine ⟨fun ctx n c s x s' h => ?_, fun f args M x M' h => ?_, fun f args u M x u' M' h => ?_, fun f args M x h => ?_⟩
    · simp [codeOf, eval] at h
    · simp [callOf, eval] at h
    · simp [calldOf, eval] at h
    · simp [callOf, eval] at h
  | k + 1 => by
    obtain ⟨h1, h2, h3, h4⟩ := eval_ok OK base k
    have e1 : codeOf (eval E (k + 1)) = codeStep E (callOf (eval E k)) (codeOf (eval E k)) := by
      funext ctx n c s
      show (match (match codeStep E (callOf (eval E k)) (codeOf (eval E k)) ctx n c s with
        | some (x, s') => some (Out.code x s')
        | none => none) with
        | some (.code x s') => some (x, s')
        | _ => none) = _
      cases codeStep E (callOf (eval E k)) (codeOf (eval E k)) ctx n c s with
      | none => rfl
      | some y => rfl
    have e2 : callOf (eval E (k + 1)) = callStep E (codeOf (eval E k)) (calldOf (eval E k)) := by
      funext f args M
      simp only [callOf, eval]
      cases h : callStep E (codeOf (eval E k)) (calldOf (eval E k)) f args M with
      | none => rfl
      | some y => rfl
    have e3 : calldOf (eval E (k + 1)) = calldStep E (callOf (eval E k)) (codeOf (eval E k)) := by
      funext f args u M
      simp only [calldOf, eval]
      cases h : calldStep E (callOf (eval E k)) (codeOf (eval E k)) f args u M with
      | none => rfl
      | some y => rfl
    rw [e1, e2, e3]
    exact ⟨codeStep_ok OK h2 h4 h1, callStep_ok OK h1 h3, calldStep_ok OK h2 h4 h1, fun f args M x h => callStep_enters h⟩

/-- Does the closed call answer true? -/
def saysTrue : Option Out → Bool
  | some (.call (.ret (.lit (.bool true))) _) => true
  | _ => false

/-- A CLOSED CALL: what the evaluator finds holds in every world that has the constant variables. -/
theorem closed_call {E : Env} (OK : E.OK) {k : Nat} {f : FuncId} (h : saysTrue (eval E k (.call (.fn f) [] ⟨0, .leaf⟩)) = true) (w : World)
    (hg : ∀ g off v, E.gcell g off = some v → g < w.heap.size ∧ w.cell? ⟨g, off, none⟩ = some v) (hsy : E.sy = fun _ => none := by rfl) (hold : E.old = fun _ => none := by rfl) :
    Calls E.P f #[] w fun e w' => e = .returned (.bool true) ∧ RowKit.Below w.heap.size w w' := by
  unfold saysTrue at h
  split at h
  · rename_i M hM
    have hcall : callOf (eval E k) (.fn f) [] ⟨0, .leaf⟩ = some (.ret (.lit (.bool true)), M) := by
      unfold callOf
      rw [hM]
    have hc : Cons E w.heap.size (fun _ => none) ⟨0, .leaf⟩ w := ⟨(fun b x hx => by simp at hx), (fun b b' x x' l l' hx => by simp at hx), (fun b l hl => by cases hl), (fun b l hl => by cases hl), ⟨hg, fun k o ho => by rw [hold] at ho; cases ho⟩, fun b l hl => by rw [hsy] at hl; cases hl⟩
    have := (eval_ok OK w.heap.size k).2.1 (.fn f) [] ⟨0, .leaf⟩ _ M hcall (fun _ => none) w [] hc (Nat.le_refl _) (by simp [VRs])
    refine Calls.mono (show Calls E.P f #[] w _ from this) fun e w' he => ?_
    obtain ⟨ρ', k1, k2⟩ := he
    refine ⟨?_, k1.below hc (Nat.le_refl _)⟩
    cases e with
    | returned v => simp only [EndR, VR] at k2; rw [k2]
    | _ => exact k2.elim
  · cases h

end Go.Proofs.YtiamenedboifeabGreatDoor.Rx

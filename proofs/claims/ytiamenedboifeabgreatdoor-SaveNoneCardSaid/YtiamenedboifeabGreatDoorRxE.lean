/- A reflective evaluator of the model's code, part E: maps: what a key finds. -/
import Derived.Test.YtiamenedboifeabGreatDoorRxD
namespace Go.Proofs.YtiamenedboifeabGreatDoor.Rx

theorem pureRun_bind {P : Program} {α β : Type} (f : α → Sem β) : ∀ (s : Sem α), pureRun P (s >>= f) = (match pureRun P s with | some a => pureRun P (f a) | none => none) := by
  intro s
  induction s with
  | pure x => rfl
  | program k ih => exact ih P
  | mark m k ih => exact ih
  | _ => rfl

theorem pureRun_pure {P : Program} {α : Type} (a : α) : pureRun P (pure a : Sem α) = some a := rfl

/-- The keys of the entries, if they hold no address. -/
def keysOf : List (AV × AV × Nat) → Option (List MapEntry)
  | [] => some []
  | (k, _, n) :: r => match k.lit? with
    | some x => match keysOf r with
      | some l => some (⟨x, .bool false, n⟩ :: l)
      | none => none
    | none => none

theorem keysOf_ok {ρ : Place} : ∀ {es : List (AV × AV × Nat)} {ents l : List MapEntry}, ER ρ es ents → keysOf es = some l → l.map (·.key) = ents.map (·.key)
  | [], _, l, h, e => by
    simp only [ER] at h
    subst h
    simp only [keysOf, Option.some.injEq] at e
    subst e
    rfl
  | (k, v, n) :: r, ents, l, h, e => by
    simp only [ER] at h
    obtain ⟨x, xs, rfl, h1, _, _, h4⟩ := h
    simp only [keysOf] at e
    split at e
    · rename_i y hy
      split at e
      · rename_i l' hl
        simp only [Option.some.injEq] at e
        subst e
        simp only [List.map_cons, keysOf_ok h4 hl, h1.lit _ _ _ hy]
      · cases e
    · cases e

/-- The same keys find the same place. -/
def Alike (r1 r2 : Option (Nat × Value)) (es : List MapEntry) : Prop :=
  match r1 with
  | none => r2 = none
  | some (i, _) => ∃ e, es[i]? = some e ∧ r2 = some (i, e.val)

theorem findNow_alike {kd : TypeDesc} {k : Value} : ∀ {a b pre : List MapEntry} {i : Nat}, a.map (·.key) = b.map (·.key) → i = pre.length →
    (Instr.findNow kd k a i = none ∧ Instr.findNow kd k b i = none) ∨ (∃ r1 r2, Instr.findNow kd k a i = some r1 ∧ Instr.findNow kd k b i = some r2 ∧ Alike r1 r2 (pre ++ b))
  | [], [], _, _, _, _ => .inr ⟨none, none, rfl, rfl, rfl⟩
  | [], _ :: _, _, _, h, _ => by simp at h
  | _ :: _, [], _, _, h, _ => by simp at h
  | x :: a, y :: b, pre, i, h, hi => by
    simp only [List.map_cons, List.cons.injEq] at h
    simp only [Instr.findNow, h.1]
    cases hs : Instr.sameNow kd k y.key with
    | none => exact .inl ⟨rfl, rfl⟩
    | some t => cases t with
      | true => exact .inr ⟨_, _, rfl, rfl, y, by simp [hi], rfl⟩
      | false =>
        have := findNow_alike (kd := kd) (k := k) (pre := pre ++ [y]) (i := i + 1) h.2 (by simp [hi])
        simpa using this

theorem findAsking_alike {P : Program} {kt : TypeId} {k : Value} : ∀ {a b pre : List MapEntry} {i : Nat} {r1 : Option (Nat × Value)}, a.map (·.key) = b.map (·.key) → i = pre.length →
    pureRun P (Instr.findAsking kt k a i) = some r1 → ∃ r2, pureRun P (Instr.findAsking kt k b i) = some r2 ∧ Alike r1 r2 (pre ++ b)
  | [], [], _, _, _, _, _, h => by
    simp only [Instr.findAsking, pureRun_pure, Option.some.injEq] at h
    subst h
    exact ⟨none, rfl, rfl⟩
  | [], _ :: _, _, _, _, h, _, _ => by simp at h
  | _ :: _, [], _, _, _, h, _, _ => by simp at h
  | x :: a, y :: b, pre, i, r1, h, hi, hr => by
    simp only [List.map_cons, List.cons.injEq] at h
    simp only [Instr.findAsking, h.1, pureRun_bind] at hr ⊢
    cases hs : pureRun P (Op.equal kt k y.key) with
    | none => rw [hs] at hr; cases hr
    | some t =>
      rw [hs] at hr
      cases t with
      | true =>
        simp only [if_true, pureRun_pure, Option.some.injEq] at hr ⊢
        subst hr
        exact ⟨_, rfl, y, by simp [hi], rfl⟩
      | false =>
        simp only [Bool.false_eq_true, if_false] at hr ⊢
        have := findAsking_alike (P := P) (kt := kt) (k := k) (pre := pre ++ [y]) (i := i + 1) h.2 (by simp [hi]) hr
        simpa using this

theorem findKey_alike {P : Program} {kt : TypeId} {k : Value} {a b : List MapEntry} {r1 : Option (Nat × Value)} (h : a.map (·.key) = b.map (·.key)) (hr : pureRun P (Instr.findKey kt k a) = some r1) :
    ∃ r2, pureRun P (Instr.findKey kt k b) = some r2 ∧ Alike r1 r2 b := by
  simp only [Instr.findKey, pureRun_bind] at hr ⊢
  cases hu : pureRun P (underlying kt) with
  | none => rw [hu] at hr; cases hr
  | some kd =>
    rw [hu] at hr
    simp only [] at hr ⊢
    rcases findNow_alike (kd := kd) (k := k) (pre := []) (i := 0) h rfl with ⟨h1, h2⟩ | ⟨s1, s2, h1, h2, h3⟩
    · rw [h1] at hr
      rw [h2]
      simpa using findAsking_alike (pre := []) (i := 0) h rfl hr
    · rw [h1] at hr
      rw [h2]
      simp only [pureRun_pure, Option.some.injEq] at hr ⊢
      subst hr
      exact ⟨s2, rfl, by simpa using h3⟩

/-- May the key be asked for, and where is it? -/
def findA (P : Program) (kt : TypeId) (k : Value) (es : List (AV × AV × Nat)) : Option (Option Nat) :=
  match pureRun P (Instr.checkKey true 10000 kt k), pureRun P (Instr.checkKey false 10000 kt k) with
  | some _, some _ => match keysOf es with
    | some l => match pureRun P (Instr.findKey kt k l) with
      | some (some (i, _)) => some (some i)
      | some none => some none
      | none => none
    | none => none
  | _, _ => none

theorem findA_ok {P : Program} {ρ : Place} {kt : TypeId} {k : Value} {es : List (AV × AV × Nat)} {ents : List MapEntry} {r : Option Nat} (he : ER ρ es ents) (h : findA P kt k es = some r) (w : World) :
    (∀ t, (Instr.checkKey t 10000 kt k).run P w = .ok () w) ∧
    (match r with
     | none => (Instr.findKey kt k ents).run P w = .ok none w
     | some i => ∃ e, ents[i]? = some e ∧ (Instr.findKey kt k ents).run P w = .ok (some (i, e.val)) w) := by
  unfold findA at h
  split at h
  · rename_i x y hx hy
    refine ⟨fun t => ?_, ?_⟩
    · cases t with
      | true => exact pureRun_run _ _ hx w
      | false => exact pureRun_run _ _ hy w
    · split at h
      · rename_i l hl
        have hk := keysOf_ok he hl
        split at h
        · rename_i i v hf
          simp only [Option.some.injEq] at h
          subst h
          obtain ⟨r2, h1, e, h2, h3⟩ := findKey_alike hk hf
          subst h3
          exact ⟨e, h2, pureRun_run _ _ h1 w⟩
        · rename_i hf
          simp only [Option.some.injEq] at h
          subst h
          obtain ⟨r2, h1, h2⟩ := findKey_alike hk hf
          simp only [Alike] at h2
          subst h2
          exact pureRun_run _ _ h1 w
        · cases h
      · cases h
  · cases h

theorem ER.get {ρ : Place} : ∀ {es : List (AV × AV × Nat)} {ents : List MapEntry}, ER ρ es ents → ∀ {i : Nat} {e : MapEntry}, ents[i]? = some e → ∃ k v n, es[i]? = some (k, v, n) ∧ VR ρ k e.key ∧ VR ρ v e.val ∧ e.born = n
  | [], _, h, i, e, he => by simp only [ER] at h; subst h; simp at he
  | (k, v, n) :: r, _, h, i, e, he => by
    simp only [ER] at h
    obtain ⟨x, xs, rfl, h1, h2, h3, h4⟩ := h
    cases i with
    | zero =>
      simp only [List.getElem?_cons_zero, Option.some.injEq] at he
      subst he
      exact ⟨k, v, n, rfl, h1, h2, h3⟩
    | succ i =>
      simp only [List.getElem?_cons_succ] at he
      obtain ⟨k', v', n', a, b⟩ := h4.get he
      exact ⟨k', v', n', by simpa using a, b⟩

theorem ER.length {ρ : Place} : ∀ {es : List (AV × AV × Nat)} {ents : List MapEntry}, ER ρ es ents → ents.length = es.length
  | [], _, h => by simp only [ER] at h; subst h; rfl
  | (k, v, n) :: r, _, h => by
    simp only [ER] at h
    obtain ⟨x, xs, rfl, _, _, _, h4⟩ := h
    simp [h4.length]

theorem ER.append {ρ : Place} : ∀ {es es' : List (AV × AV × Nat)} {a b : List MapEntry}, ER ρ es a → ER ρ es' b → ER ρ (es ++ es') (a ++ b)
  | [], _, _, _, h, h' => by simp only [ER] at h; subst h; exact h'
  | (k, v, n) :: r, _, _, _, h, h' => by
    simp only [ER] at h
    obtain ⟨x, xs, rfl, h1, h2, h3, h4⟩ := h
    exact ⟨x, xs ++ _, rfl, h1, h2, h3, h4.append h'⟩

theorem ER.erase {ρ : Place} : ∀ {es : List (AV × AV × Nat)} {a : List MapEntry} (i : Nat), ER ρ es a → ER ρ (es.eraseIdx i) (a.eraseIdx i)
  | [], _, _, h => by simp only [ER] at h; subst h; simp [ER]
  | (k, v, n) :: r, _, i, h => by
    simp only [ER] at h
    obtain ⟨x, xs, rfl, h1, h2, h3, h4⟩ := h
    cases i with
    | zero => exact h4
    | succ i => exact ⟨x, _, rfl, h1, h2, h3, h4.erase i⟩

theorem ER.modify {ρ : Place} {f : MapEntry → MapEntry} {g : AV × AV × Nat → AV × AV × Nat} (hfg : ∀ k v n (e : MapEntry), VR ρ k e.key → VR ρ v e.val → e.born = n →
      VR ρ (g (k, v, n)).1 (f e).key ∧ VR ρ (g (k, v, n)).2.1 (f e).val ∧ (f e).born = (g (k, v, n)).2.2) : ∀ {es : List (AV × AV × Nat)} {a : List MapEntry} (i : Nat), ER ρ es a → ER ρ (es.modify i g) (a.modify i f)
  | [], _, i, h => by simp only [ER] at h; subst h; cases i <;> simp [ER]
  | (k, v, n) :: r, _, i, h => by
    simp only [ER] at h
    obtain ⟨x, xs, rfl, h1, h2, h3, h4⟩ := h
    cases i with
    | zero =>
      obtain ⟨a1, a2, a3⟩ := hfg k v n x h1 h2 h3
      exact ⟨f x, xs, rfl, a1, a2, a3, h4⟩
    | succ i => exact ⟨x, _, rfl, h1, h2, h3, ER.modify hfg i h4⟩

/-! Look-ups. -/

def lookupR (ok : Bool) (v : AV) (is : Bool) : AV :=
  cond ok (.tuple [v, .lit (.bool is)]) v

def entriesA (M : Mem) : AV → Option (List (AV × AV × Nat))
  | .lit (.map none) => some []
  | .mapp b => match M.bl.get b with
    | some (.map es _) => some es
    | _ => none
  | _ => none

def lookupA (P : Program) (M : Mem) (t : TypeId) (x i : AV) (ok : Bool) : Option AV :=
  match P.underlying t with
  | some (.map kt et) => match i.lit? with
    | some k => match entriesA M x with
      | some es => match findA P kt k es with
        | some none => match pureRun P (zeroValue et) with
          | some z => some (lookupR ok (.lit z) false)
          | none => none
        | some (some j) => match es[j]? with
          | some (_, v, _) => some (lookupR ok v true)
          | none => none
        | none => none
      | none => none
    | none => none
  | _ => none

theorem lookupR_ok {ρ : Place} {ok is : Bool} {v : AV} {x : Value} (h : VR ρ v x) : VR ρ (lookupR ok v is) (if ok = true then .tuple #[x, .bool is] else x) := by
  cases ok with
  | true =>
    simp only [lookupR, cond_true, if_true, VR, VRs]
    exact ⟨_, rfl, _, _, rfl, h, _, _, rfl, rfl, rfl⟩
  | false => simpa [lookupR] using h

theorem entriesA_ok {E : Env} {base : Nat} {ρ : Place} {M : Mem} {w : World} (hc : Cons E base ρ M w) {x : AV} {y : Value} {es : List (AV × AV × Nat)} (hx : VR ρ x y) (he : entriesA M x = some es) :
    (es = [] ∧ y = .map none) ∨ ∃ r cl ents, y = .map (some r) ∧ ER ρ es ents.toList ∧ (getObj r).run E.P w = .ok (.map ents cl) w := by
  unfold entriesA at he
  split at he
  · simp only [Option.some.injEq] at he
    subst he
    simp only [VR] at hx
    exact .inl ⟨rfl, hx⟩
  · rename_i b
    split at he
    · rename_i es' cl hb
      simp only [Option.some.injEq] at he
      subst he
      simp only [VR] at hx
      obtain ⟨l, hl, rfl⟩ := hx
      obtain ⟨l', hl', _, ents, a1, a2⟩ := hc.blk b _ hb
      rw [hl, Option.some.injEq] at hl'
      subst hl'
      exact .inr ⟨_, cl, ents, rfl, a2, by simp [getObj, Sem.run, a1]⟩
    · cases he
  · cases he

theorem lookupA_ok {E : Env} {base : Nat} {ρ : Place} {M : Mem} {w : World} (hc : Cons E base ρ M w) {t : TypeId} {x i v : AV} {y j : Value} {ok : Bool} (hx : VR ρ x y) (hi : VR ρ i j)
    (h : lookupA E.P M t x i ok = some v) : ∃ z, (Instr.lookup t y j ok).run E.P w = .ok z w ∧ VR ρ v z := by
  unfold lookupA at h
  split at h
  · rename_i kt et hu
    split at h
    · rename_i k hk
      have := hi.lit _ _ _ hk
      subst this
      split at h
      · rename_i es he
        split at h
        · rename_i hf
          split at h
          · rename_i z hz
            simp only [Option.some.injEq] at h
            subst h
            refine ⟨_, ?_, lookupR_ok (ρ := ρ) (is := false) (x := z) (by simp [VR])⟩
            rcases entriesA_ok hc hx he with ⟨rfl, rfl⟩ | ⟨r, cl, ents, rfl, hER, hget⟩
            · obtain ⟨hck, hfk⟩ := findA_ok (ρ := ρ) (ents := []) (by simp [ER]) hf w
              simp only [] at hfk
              simp [Instr.lookup, run_underlying hu, hck, hfk, pureRun_run _ _ hz w]
            · obtain ⟨hck, hfk⟩ := findA_ok hER hf w
              simp only [] at hfk
              simp [Instr.lookup, run_underlying hu, hget, hck, hfk, pureRun_run _ _ hz w]
          · cases h
        · rename_i n hf
          split at h
          · rename_i a u b hes
            simp only [Option.some.injEq] at h
            subst h
            rcases entriesA_ok hc hx he with ⟨rfl, rfl⟩ | ⟨r, cl, ents, rfl, hER, hget⟩
            · simp at hes
            · obtain ⟨hck, e, he1, hfk⟩ := findA_ok hER hf w
              obtain ⟨k', v', n', a1, a2, a3, a4⟩ := hER.get he1
              rw [hes, Option.some.injEq, Prod.mk.injEq, Prod.mk.injEq] at a1
              obtain ⟨rfl, rfl, rfl⟩ := a1
              refine ⟨_, ?_, lookupR_ok (is := true) a3⟩
              simp [Instr.lookup, run_underlying hu, hget, hck, hfk]
          · cases h
        · cases h
      · cases h
    · cases h
  · cases h

/-! The number of entries. -/

def mapLenA (P : Program) (M : Mem) (t : TypeId) (x : AV) : Option AV :=
  match P.underlying t with
  | some (.map _ _) => match entriesA M x with
    | some es => some (.lit (goInt es.length))
    | none => none
  | _ => none

theorem mapLenA_ok {E : Env} {base : Nat} {ρ : Place} {M : Mem} {w : World} (hc : Cons E base ρ M w) {t u : TypeId} {ts : Array TypeId} (ht : ts[0]? = some t) {x v : AV} {y : Value} (hx : VR ρ x y)
    (h : mapLenA E.P M t x = some v) : ∃ z, (Builtin.len_ ts u #[y]).run E.P w = .ok z w ∧ VR ρ v z := by
  unfold mapLenA at h
  split at h
  · rename_i kt et hu
    split at h
    · rename_i es he
      simp only [Option.some.injEq] at h
      subst h
      refine ⟨goInt es.length, ?_, by simp [VR]⟩
      rcases entriesA_ok hc hx he with ⟨rfl, rfl⟩ | ⟨r, cl, ents, rfl, hER, hget⟩
      · simp [Builtin.len_, ht, run_underlying hu]
      · have hl := hER.length
        simp only [Array.length_toList] at hl
        simp [Builtin.len_, ht, run_underlying hu, hget, hl]
    · cases h
  · cases h

/-! Updates and deletions. -/

theorem setObj_run {P : Program} {w : World} {b : Nat} {es : Array MapEntry} {cl : Nat} {x : Obj} (h : w.heap[b]? = some (.map es cl)) : (setObj b x).run P w = .ok () { w with heap := w.heap.setIfInBounds b x } := by
  simp [setObj, Sem.run, h]

theorem setObj_at {w : World} {b : Nat} {o x : Obj} (h : w.heap[b]? = some o) : (w.heap.setIfInBounds b x)[b]? = some x := by
  have hlt : b < w.heap.size := by
    rcases Nat.lt_or_ge b w.heap.size with k | k
    · exact k
    · rw [Array.getElem?_eq_none k] at h; cases h
  simp [hlt]

/-- A map is overwritten. -/
theorem Step.mapSet {E : Env} {base : Nat} {ρ : Place} {M : Mem} {w : World} (hc : Cons E base ρ M w) {b : Nat} {es es' : List (AV × AV × Nat)} {cl cl' : Nat} {l : Loc} {ents ents' : Array MapEntry}
    (hb : M.bl.get b = some (.map es cl)) (hl : ρ b = some l) (h0 : l.off = 0) (hh : w.heap[l.blk]? = some (.map ents cl)) (hE : ER ρ es' ents'.toList) :
    Step E base ρ w M ρ { w with heap := w.heap.setIfInBounds l.blk (.map ents' cl') } ⟨M.next, M.bl.set b (.map es' cl')⟩ := by
  refine Step.over hc hb hl (by simp) (fun k hk => by simp only []; rw [Array.getElem?_setIfInBounds_ne (fun e => hk e.symm)]) ?_ rfl rfl rfl
  exact ⟨h0, ents', setObj_at hh, hE⟩

def updateA (P : Program) (M : Mem) (t : TypeId) (x k v : AV) : Option Mem :=
  match P.underlying t with
  | some (.map kt _) => match x with
    | .mapp b => match M.bl.get b with
      | some (.map es cl) => match k.lit? with
        | some key => match findA P kt key es with
          | some none => some ⟨M.next, M.bl.set b (.map (es ++ [(k, v, cl)]) (cl + 1))⟩
          | some (some j) => match es[j]? with
            | some (k0, _, _) => match k0.lit? with
              | some key0 => cond (Instr.sameBits 10000 key0 key) (some ⟨M.next, M.bl.set b (.map (es.modify j fun e => (k, v, e.2.2)) cl)⟩) none
              | none => none
            | none => none
          | none => none
        | none => none
      | _ => none
    | _ => none
  | _ => none

theorem updateA_ok {E : Env} {base : Nat} {ρ : Place} {M M' : Mem} {w : World} (hc : Cons E base ρ M w) {t : TypeId} {x k v : AV} {y z u : Value} (hx : VR ρ x y) (hk : VR ρ k z) (hv : VR ρ v u)
    (h : updateA E.P M t x k v = some M') : ∃ w', (Instr.mapUpdate t y z u).run E.P w = .ok () w' ∧ Step E base ρ w M ρ w' M' := by
  unfold updateA at h
  split at h
  · rename_i kt et hu
    split at h
    · rename_i b
      split at h
      · rename_i es cl hb
        split at h
        · rename_i key hkey
          have := hk.lit _ _ _ hkey
          subst this
          simp only [VR] at hx
          obtain ⟨l, hl, rfl⟩ := hx
          obtain ⟨l', hl', h0, ents, a1, a2⟩ := hc.blk b _ hb
          rw [hl, Option.some.injEq] at hl'
          subst hl'
          have hget : (getObj l.blk).run E.P w = .ok (.map ents cl) w := by simp [getObj, Sem.run, a1]
          split at h
          · rename_i hf
            simp only [Option.some.injEq] at h
            subst h
            obtain ⟨hck, hfk⟩ := findA_ok a2 hf w
            simp only [] at hfk
            refine ⟨_, ?_, Step.mapSet (es' := es ++ [(k, v, cl)]) (cl' := cl + 1) (ents' := ents.push { key := z, val := u, born := cl }) hc hb hl h0 a1 ?_⟩
            · simp [Instr.mapUpdate, run_underlying hu, hget, hck, hfk, setObj_run a1]
            · rw [Array.toList_push]
              exact a2.append ⟨_, [], rfl, hk, hv, rfl, rfl⟩
          · rename_i j hf
            split at h
            · rename_i k0 v0 n0 hes
              split at h
              · rename_i key0 hk0
                cases hsb : Instr.sameBits 10000 key0 z with
                | false => rw [hsb] at h; simp at h
                | true =>
                  rw [hsb] at h
                  simp only [cond_true, Option.some.injEq] at h
                  subst h
                  obtain ⟨hck, e, he1, hfk⟩ := findA_ok a2 hf w
                  obtain ⟨k', v', n', b1, b2, b3, b4⟩ := a2.get he1
                  rw [hes, Option.some.injEq, Prod.mk.injEq, Prod.mk.injEq] at b1
                  obtain ⟨rfl, rfl, rfl⟩ := b1
                  have hke := b2.lit _ _ _ hk0
                  subst hke
                  have he2 : ents[j]? = some e := by simpa using he1
                  refine ⟨_, ?_, Step.mapSet (es' := es.modify j fun e => (k, v, e.2.2)) (cl' := cl) (ents' := ents.modify j fun e => { e with key := z, val := u }) hc hb hl h0 a1 ?_⟩
                  · simp [Instr.mapUpdate, Instr.keyThatStays, run_underlying hu, hget, hck, hfk, he2, hsb, setObj_run a1]
                  · rw [Array.toList_modify]
                    exact ER.modify (fun _ _ _ _ _ _ h3 => ⟨hk, hv, h3⟩) j a2
              · cases h
            · cases h
          · cases h
        · cases h
      · cases h
    · cases h
  · cases h

def deleteA (P : Program) (M : Mem) (t : TypeId) (x k : AV) : Option Mem :=
  match P.underlying t with
  | some (.map kt _) => match x with
    | .mapp b => match M.bl.get b with
      | some (.map es cl) => match k.lit? with
        | some key => match findA P kt key es with
          | some none => some ⟨M.next, M.bl.set b (.map es cl)⟩
          | some (some j) => some ⟨M.next, M.bl.set b (.map (es.eraseIdx j) cl)⟩
          | none => none
        | none => none
      | _ => none
    | _ => none
  | _ => none

theorem deleteA_ok {E : Env} {base : Nat} {ρ : Place} {M M' : Mem} {w : World} (hc : Cons E base ρ M w) {t ty : TypeId} {ts : Array TypeId} (ht : ts[0]? = some t) {x k : AV} {y z : Value} (hx : VR ρ x y) (hk : VR ρ k z)
    (h : deleteA E.P M t x k = some M') : ∃ w', (Builtin.delete_ ts ty #[y, z]).run E.P w = .ok (.tuple #[]) w' ∧ Step E base ρ w M ρ w' M' := by
  unfold deleteA at h
  split at h
  · rename_i kt et hu
    split at h
    · rename_i b
      split at h
      · rename_i es cl hb
        split at h
        · rename_i key hkey
          have := hk.lit _ _ _ hkey
          subst this
          simp only [VR] at hx
          obtain ⟨l, hl, rfl⟩ := hx
          obtain ⟨l', hl', h0, ents, a1, a2⟩ := hc.blk b _ hb
          rw [hl, Option.some.injEq] at hl'
          subst hl'
          have hget : (getObj l.blk).run E.P w = .ok (.map ents cl) w := by simp [getObj, Sem.run, a1]
          split at h
          · rename_i hf
            simp only [Option.some.injEq] at h
            subst h
            obtain ⟨hck, hfk⟩ := findA_ok a2 hf w
            simp only [] at hfk
            refine ⟨_, ?_, Step.mapSet (es' := es) (cl' := cl) (ents' := ents) hc hb hl h0 a1 a2⟩
            simp [Builtin.delete_, ht, run_underlying hu, hget, hck, hfk, setObj_run a1]
          · rename_i j hf
            simp only [Option.some.injEq] at h
            subst h
            obtain ⟨hck, e, he1, hfk⟩ := findA_ok a2 hf w
            refine ⟨_, ?_, Step.mapSet (es' := es.eraseIdx j) (cl' := cl) (ents' := ents.eraseIdxIfInBounds j) hc hb hl h0 a1 ?_⟩
            · simp [Builtin.delete_, ht, run_underlying hu, hget, hck, hfk, setObj_run a1]
            · rw [Array.toList_eraseIdxIfInBounds]
              exact a2.erase j
          · cases h
        · cases h
      · cases h
    · cases h
  · cases h

/-! An entry that is made or found, and its value stored behind. -/

def mapEntryA (P : Program) (M : Mem) (t : TypeId) (x k : AV) : Option (AV × Mem) :=
  match P.underlying t with
  | some (.map kt et) => match x with
    | .mapp b => match M.bl.get b with
      | some (.map es cl) => match k.lit? with
        | some key => match findA P kt key es with
          | some none => match pureRun P (zeroValue et) with
            | some z => some (.tuple [.lit z, .lit (.int .i64 cl)], ⟨M.next, M.bl.set b (.map (es ++ [(k, .lit z, cl)]) (cl + 1))⟩)
            | none => none
          | some (some j) => match es[j]? with
            | some (k0, v0, n0) => match k0.lit? with
              | some key0 => cond (Instr.sameBits 10000 key0 key) (some (.tuple [v0, .lit (.int .i64 n0)], ⟨M.next, M.bl.set b (.map (es.modify j fun e => (k, e.2.1, e.2.2)) cl)⟩)) none
              | none => none
            | none => none
          | none => none
        | none => none
      | _ => none
    | _ => none
  | _ => none

theorem mapEntryA_ok {E : Env} {base : Nat} {ρ : Place} {M M' : Mem} {w : World} (hc : Cons E base ρ M w) {t : TypeId} {x k v : AV} {y z : Value} (hx : VR ρ x y) (hk : VR ρ k z)
    (h : mapEntryA E.P M t x k = some (v, M')) : ∃ u w', (Instr.mapEntry t y z).run E.P w = .ok u w' ∧ VR ρ v u ∧ Step E base ρ w M ρ w' M' := by
  unfold mapEntryA at h
  split at h
  · rename_i kt et hu
    split at h
    · rename_i b
      split at h
      · rename_i es cl hb
        split at h
        · rename_i key hkey
          have := hk.lit _ _ _ hkey
          subst this
          simp only [VR] at hx
          obtain ⟨l, hl, rfl⟩ := hx
          obtain ⟨l', hl', h0, ents, a1, a2⟩ := hc.blk b _ hb
          rw [hl, Option.some.injEq] at hl'
          subst hl'
          have hget : (getObj l.blk).run E.P w = .ok (.map ents cl) w := by simp [getObj, Sem.run, a1]
          split at h
          · rename_i hf
            split at h
            · rename_i zv hz
              simp only [Option.some.injEq, Prod.mk.injEq] at h
              obtain ⟨rfl, rfl⟩ := h
              obtain ⟨hck, hfk⟩ := findA_ok a2 hf w
              simp only [] at hfk
              refine ⟨.tuple #[zv, goInt cl], _, ?_, ?_, Step.mapSet (es' := es ++ [(k, .lit zv, cl)]) (cl' := cl + 1) (ents' := ents.push { key := z, val := zv, born := cl }) hc hb hl h0 a1 ?_⟩
              · simp [Instr.mapEntry, run_underlying hu, hget, hck, hfk, pureRun_run _ _ hz, setObj_run a1]
              · simp only [VR, VRs, goInt]
                exact ⟨_, rfl, _, _, rfl, rfl, _, _, rfl, rfl, rfl⟩
              · rw [Array.toList_push]
                exact a2.append ⟨_, [], rfl, hk, by simp only [VR], rfl, rfl⟩
            · cases h
          · rename_i j hf
            split at h
            · rename_i k0 v0 n0 hes
              split at h
              · rename_i key0 hk0
                cases hsb : Instr.sameBits 10000 key0 z with
                | false => rw [hsb] at h; simp at h
                | true =>
                  rw [hsb] at h
                  simp only [cond_true, Option.some.injEq, Prod.mk.injEq] at h
                  obtain ⟨rfl, rfl⟩ := h
                  obtain ⟨hck, e, he1, hfk⟩ := findA_ok a2 hf w
                  obtain ⟨k', v', n', b1, b2, b3, b4⟩ := a2.get he1
                  rw [hes, Option.some.injEq, Prod.mk.injEq, Prod.mk.injEq] at b1
                  obtain ⟨rfl, rfl, rfl⟩ := b1
                  have hke := b2.lit _ _ _ hk0
                  subst hke
                  have he2 : ents[j]? = some e := by simpa using he1
                  refine ⟨.tuple #[e.val, goInt e.born], _, ?_, ?_, Step.mapSet (es' := es.modify j fun e => (k, e.2.1, e.2.2)) (cl' := cl) (ents' := ents.modify j fun e => { e with key := z }) hc hb hl h0 a1 ?_⟩
                  · simp [Instr.mapEntry, Instr.keyThatStays, run_underlying hu, hget, hck, hfk, he2, hsb, setObj_run a1]
                  · simp only [VR, VRs, goInt]
                    exact ⟨_, rfl, _, _, rfl, b3, _, _, rfl, by rw [b4], rfl⟩
                  · rw [Array.toList_modify]
                    exact ER.modify (fun _ _ _ _ _ h2 h3 => ⟨hk, h2, h3⟩) j a2
              · cases h
            · cases h
          · cases h
        · cases h
      · cases h
    · cases h
  · cases h

theorem ER.findIdx {ρ : Place} (p : Nat → Bool) : ∀ {es : List (AV × AV × Nat)} {a : List MapEntry}, ER ρ es a → a.findIdx? (fun e => p e.born) = es.findIdx? (fun e => p e.2.2)
  | [], _, h => by simp only [ER] at h; subst h; rfl
  | (k, v, n) :: r, _, h => by
    simp only [ER] at h
    obtain ⟨x, xs, rfl, h1, h2, h3, h4⟩ := h
    simp only [List.findIdx?_cons, h3, ER.findIdx p h4]

def entryStoreA (M : Mem) (x s v : AV) : Option Mem :=
  match x with
  | .mapp b => match M.bl.get b with
    | some (.map es cl) => match s with
      | .lit (.int _ born) => match es.findIdx? fun e => (e.2.2 : Int) == born with
        | some j => some ⟨M.next, M.bl.set b (.map (es.modify j fun e => (e.1, v, e.2.2)) cl)⟩
        | none => none
      | _ => none
    | _ => none
  | _ => none

theorem entryStoreA_ok {E : Env} {base : Nat} {ρ : Place} {M M' : Mem} {w : World} (hc : Cons E base ρ M w) {t : TypeId} {x s v : AV} {y z u : Value} (hx : VR ρ x y) (hs : VR ρ s z) (hv : VR ρ v u)
    (h : entryStoreA M x s v = some M') : ∃ w', (Instr.entryStore t y z u).run E.P w = .ok () w' ∧ Step E base ρ w M ρ w' M' := by
  unfold entryStoreA at h
  split at h
  · rename_i b
    split at h
    · rename_i es cl hb
      split at h
      · rename_i kd born
        split at h
        · rename_i j hj
          simp only [Option.some.injEq] at h
          subst h
          simp only [VR] at hx hs
          subst hs
          obtain ⟨l, hl, rfl⟩ := hx
          obtain ⟨l', hl', h0, ents, a1, a2⟩ := hc.blk b _ hb
          rw [hl, Option.some.injEq] at hl'
          subst hl'
          have hget : (getObj l.blk).run E.P w = .ok (.map ents cl) w := by simp [getObj, Sem.run, a1]
          have hfi : ents.findIdx? (fun e => (e.born : Int) == born) = some j := by
            have hto : ents.findIdx? (fun e => (e.born : Int) == born) = ents.toList.findIdx? (fun e => (e.born : Int) == born) := by
              rcases ents with ⟨l⟩
              simp
            rw [hto]
            exact (ER.findIdx (fun n => (n : Int) == born) a2).trans hj
          refine ⟨_, ?_, Step.mapSet (es' := es.modify j fun e => (e.1, v, e.2.2)) (cl' := cl) (ents' := ents.modify j fun e => { e with val := u }) hc hb hl h0 a1 ?_⟩
          · simp [Instr.entryStore, asInt, asIntOf, hget, hfi, setObj_run a1]
          · rw [Array.toList_modify]
            exact ER.modify (fun _ _ _ _ h1 _ h3 => ⟨h1, hv, h3⟩) j a2
        · cases h
      · cases h
    · cases h
  · cases h

end Go.Proofs.YtiamenedboifeabGreatDoor.Rx

/- The evaluator, second part: maps, named values, quiet operations. -/
import Derived.Test.YtkeibmkcgnppeaaGreatDoorZRa
import Derived.Laws.StructEq
namespace Go.Proofs.YtkeibmkcgnppeaaGreatDoor.Rx
theorem pureRun_bind {P : Program} {α β : Type} (f : α → Sem β) : ∀ (s : Sem α), pureRun P (s >>= f) = (match pureRun P s with | some a => pureRun P (f a) | none => none) := by
  intro s
  induction s with
  | pure x => rfl
  | program k ih => exact ih P
  | mark m k ih => exact ih
  | _ => rfl
theorem pureRun_pure {P : Program} {α : Type} (a : α) : pureRun P (pure a : Sem α) = some a := rfl
def keysOf : List (AV × AV × Nat) → Option (List MapEntry)
  | [] => some []
  | (k, _, n) :: r => match k.lit? with
    | some x => match keysOf r with
      | some l => some (⟨x, .bool false, n⟩ :: l)
      | none => none
    | none => none
theorem keysOf_ok {ρ : Place} : ∀ {es : List (AV × AV × Nat)} {ents l : List MapEntry}, ER ρ es ents → keysOf es = some l → l.map (·.key) = ents.map (·.key)
  | [], _, l, h, e => by
    simp only [ER] at h
    subst h
    simp only [keysOf, Option.some.injEq] at e
    subst e
    rfl
  | (k, v, n) :: r, ents, l, h, e => by
    simp only [ER] at h
    obtain ⟨x, xs, rfl, h1, _, _, h4⟩ := h
    simp only [keysOf] at e
    split at e
    · rename_i y hy
      split at e
      · rename_i l' hl
        simp only [Option.some.injEq] at e
        subst e
        simp only [List.map_cons, keysOf_ok h4 hl, h1.lit _ _ _ hy]
      · cases e
    · cases e
def Alike (r1 r2 : Option (Nat × Value)) (es : List MapEntry) : Prop :=
  match r1 with
  | none => r2 = none
  | some (i, _) => ∃ e, es[i]? = some e ∧ r2 = some (i, e.val)
theorem findNow_alike {kd : TypeDesc} {k : Value} : ∀ {a b pre : List MapEntry} {i : Nat}, a.map (·.key) = b.map (·.key) → i = pre.length →
    (Instr.findNow kd k a i = none ∧ Instr.findNow kd k b i = none) ∨ (∃ r1 r2, Instr.findNow kd k a i = some r1 ∧ Instr.findNow kd k b i = some r2 ∧ Alike r1 r2 (pre ++ b))
  | [], [], _, _, _, _ => .inr ⟨none, none, rfl, rfl, rfl⟩
  | [], _ :: _, _, _, h, _ => by simp at h
  | _ :: _, [], _, _, h, _ => by simp at h
  | x :: a, y :: b, pre, i, h, hi => by
    simp only [List.map_cons, List.cons.injEq] at h
    simp only [Instr.findNow, h.1]
    cases hs : Instr.sameNow kd k y.key with
    | none => exact .inl ⟨rfl, rfl⟩
    | some t => cases t with
      | true => exact .inr ⟨_, _, rfl, rfl, y, by simp [hi], rfl⟩
      | false =>
        have := findNow_alike (kd := kd) (k := k) (pre := pre ++ [y]) (i := i + 1) h.2 (by simp [hi])
        simpa using this
theorem findAsking_alike {P : Program} {kt : TypeId} {k : Value} : ∀ {a b pre : List MapEntry} {i : Nat} {r1 : Option (Nat × Value)}, a.map (·.key) = b.map (·.key) → i = pre.length →
    pureRun P (Instr.findAsking kt k a i) = some r1 → ∃ r2, pureRun P (Instr.findAsking kt k b i) = some r2 ∧ Alike r1 r2 (pre ++ b)
  | [], [], _, _, _, _, _, h => by
    simp only [Instr.findAsking, pureRun_pure, Option.some.injEq] at h
    subst h
    exact ⟨none, rfl, rfl⟩
  | [], _ :: _, _, _, _, h, _, _ => by simp at h
  | _ :: _, [], _, _, _, h, _, _ => by simp at h
  | x :: a, y :: b, pre, i, r1, h, hi, hr => by
    simp only [List.map_cons, List.cons.injEq] at h
    simp only [Instr.findAsking, h.1, pureRun_bind] at hr ⊢
    cases hs : pureRun P (Op.equal kt k y.key) with
    | none => rw [hs] at hr; cases hr
    | some t =>
      rw [hs] at hr
      cases t with
      | true =>
        simp only [if_true, pureRun_pure, Option.some.injEq] at hr ⊢
        subst hr
        exact ⟨_, rfl, y, by simp [hi], rfl⟩
      | false =>
        simp only [Bool.false_eq_true, if_false] at hr ⊢
        have := findAsking_alike (P := P) (kt := kt) (k := k) (pre := pre ++ [y]) (i := i + 1) h.2 (by simp [hi]) hr
        simpa using this
theorem findKey_alike {P : Program} {kt : TypeId} {k : Value} {a b : List MapEntry} {r1 : Option (Nat × Value)} (h : a.map (·.key) = b.map (·.key)) (hr : pureRun P (Instr.findKey kt k a) = some r1) :
    ∃ r2, pureRun P (Instr.findKey kt k b) = some r2 ∧ Alike r1 r2 b := by
  simp only [Instr.findKey, pureRun_bind] at hr ⊢
  cases hu : pureRun P (underlying kt) with
  | none => rw [hu] at hr; cases hr
  | some kd =>
    rw [hu] at hr
    simp only [] at hr ⊢
    rcases findNow_alike (kd := kd) (k := k) (pre := []) (i := 0) h rfl with ⟨h1, h2⟩ | ⟨s1, s2, h1, h2, h3⟩
    · rw [h1] at hr
      rw [h2]
      simpa using findAsking_alike (pre := []) (i := 0) h rfl hr
    · rw [h1] at hr
      rw [h2]
      simp only [pureRun_pure, Option.some.injEq] at hr ⊢
      subst hr
      exact ⟨s2, rfl, by simpa using h3⟩
def findA (P : Program) (kt : TypeId) (k : Value) (es : List (AV × AV × Nat)) : Option (Option Nat) :=
  match pureRun P (Instr.checkKey true 10000 kt k), pureRun P (Instr.checkKey false 10000 kt k) with
  | some _, some _ => match keysOf es with
    | some l => match pureRun P (Instr.findKey kt k l) with
      | some (some (i, _)) => some (some i)
      | some none => some none
      | none => none
    | none => none
  | _, _ => none
theorem findA_ok {P : Program} {ρ : Place} {kt : TypeId} {k : Value} {es : List (AV × AV × Nat)} {ents : List MapEntry} {r : Option Nat} (he : ER ρ es ents) (h : findA P kt k es = some r) (w : World) :
    (∀ t, (Instr.checkKey t 10000 kt k).run P w = .ok () w) ∧
    (match r with
     | none => (Instr.findKey kt k ents).run P w = .ok none w
     | some i => ∃ e, ents[i]? = some e ∧ (Instr.findKey kt k ents).run P w = .ok (some (i, e.val)) w) := by
  unfold findA at h
  split at h
  · rename_i x y hx hy
    refine ⟨fun t => ?_, ?_⟩
    · cases t with
      | true => exact pureRun_run _ _ hx w
      | false => exact pureRun_run _ _ hy w
    · split at h
      · rename_i l hl
        have hk := keysOf_ok he hl
        split at h
        · rename_i i v hf
          simp only [Option.some.injEq] at h
          subst h
          obtain ⟨r2, h1, e, h2, h3⟩ := findKey_alike hk hf
          subst h3
          exact ⟨e, h2, pureRun_run _ _ h1 w⟩
        · rename_i hf
          simp only [Option.some.injEq] at h
          subst h
          obtain ⟨r2, h1, h2⟩ := findKey_alike hk hf
          simp only [Alike] at h2
          subst h2
          exact pureRun_run _ _ h1 w
        · cases h
      · cases h
  · cases h
theorem ER.get {ρ : Place} : ∀ {es : List (AV × AV × Nat)} {ents : List MapEntry}, ER ρ es ents → ∀ {i : Nat} {e : MapEntry}, ents[i]? = some e → ∃ k v n, es[i]? = some (k, v, n) ∧ VR ρ k e.key ∧ VR ρ v e.val ∧ e.born = n
  | [], _, h, i, e, he => by simp only [ER] at h; subst h; simp at he
  | (k, v, n) :: r, _, h, i, e, he => by
    simp only [ER] at h
    obtain ⟨x, xs, rfl, h1, h2, h3, h4⟩ := h
    cases i with
    | zero =>
      simp only [List.getElem?_cons_zero, Option.some.injEq] at he
      subst he
      exact ⟨k, v, n, rfl, h1, h2, h3⟩
    | succ i =>
      simp only [List.getElem?_cons_succ] at he
      obtain ⟨k', v', n', a, b⟩ := h4.get he
      exact ⟨k', v', n', by simpa using a, b⟩
theorem ER.length {ρ : Place} : ∀ {es : List (AV × AV × Nat)} {ents : List MapEntry}, ER ρ es ents → ents.length = es.length
  | [], _, h => by simp only [ER] at h; subst h; rfl
  | (k, v, n) :: r, _, h => by
    simp only [ER] at h
    obtain ⟨x, xs, rfl, _, _, _, h4⟩ := h
    simp [h4.length]
theorem ER.append {ρ : Place} : ∀ {es es' : List (AV × AV × Nat)} {a b : List MapEntry}, ER ρ es a → ER ρ es' b → ER ρ (es ++ es') (a ++ b)
  | [], _, _, _, h, h' => by simp only [ER] at h; subst h; exact h'
  | (k, v, n) :: r, _, _, _, h, h' => by
    simp only [ER] at h
    obtain ⟨x, xs, rfl, h1, h2, h3, h4⟩ := h
    exact ⟨x, xs ++ _, rfl, h1, h2, h3, h4.append h'⟩
theorem ER.erase {ρ : Place} : ∀ {es : List (AV × AV × Nat)} {a : List MapEntry} (i : Nat), ER ρ es a → ER ρ (es.eraseIdx i) (a.eraseIdx i)
  | [], _, _, h => by simp only [ER] at h; subst h; simp [ER]
  | (k, v, n) :: r, _, i, h => by
    simp only [ER] at h
    obtain ⟨x, xs, rfl, h1, h2, h3, h4⟩ := h
    cases i with
    | zero => exact h4
    | succ i => exact ⟨x, _, rfl, h1, h2, h3, h4.erase i⟩
theorem ER.modify {ρ : Place} {f : MapEntry → MapEntry} {g : AV × AV × Nat → AV × AV × Nat} (hfg : ∀ k v n (e : MapEntry), VR ρ k e.key → VR ρ v e.val → e.born = n →
      VR ρ (g (k, v, n)).1 (f e).key ∧ VR ρ (g (k, v, n)).2.1 (f e).val ∧ (f e).born = (g (k, v, n)).2.2) : ∀ {es : List (AV × AV × Nat)} {a : List MapEntry} (i : Nat), ER ρ es a → ER ρ (es.modify i g) (a.modify i f)
  | [], _, i, h => by simp only [ER] at h; subst h; cases i <;> simp [ER]
  | (k, v, n) :: r, _, i, h => by
    simp only [ER] at h
    obtain ⟨x, xs, rfl, h1, h2, h3, h4⟩ := h
    cases i with
    | zero =>
      obtain ⟨a1, a2, a3⟩ := hfg k v n x h1 h2 h3
      exact ⟨f x, xs, rfl, a1, a2, a3, h4⟩
    | succ i => exact ⟨x, _, rfl, h1, h2, h3, ER.modify hfg i h4⟩
def lookupR (ok : Bool) (v : AV) (is : Bool) : AV :=
  cond ok (.tuple [v, .lit (.bool is)]) v
def entriesA (M : Mem) : AV → Option (List (AV × AV × Nat))
  | .lit (.map none) => some []
  | .mapp b => match M.bl.get b with
    | some (.map es _) => some es
    | _ => none
  | _ => none
def lookupA (P : Program) (M : Mem) (t : TypeId) (x i : AV) (ok : Bool) : Option AV :=
  match P.underlying t with
  | some (.map kt et) => match i.lit? with
    | some k => match entriesA M x with
      | some es => match findA P kt k es with
        | some none => match pureRun P (zeroValue et) with
          | some z => some (lookupR ok (.lit z) false)
          | none => none
        | some (some j) => match es[j]? with
          | some (_, v, _) => some (lookupR ok v true)
          | none => none
        | none => none
      | none => none
    | none => none
  | _ => none
theorem lookupR_ok {ρ : Place} {ok is : Bool} {v : AV} {x : Value} (h : VR ρ v x) : VR ρ (lookupR ok v is) (if ok = true then .tuple #[x, .bool is] else x) := by
  cases ok with
  | true =>
    simp only [lookupR, cond_true, if_true, VR, VRs]
    exact ⟨_, rfl, _, _, rfl, h, _, _, rfl, rfl, rfl⟩
  | false => simpa [lookupR] using h
theorem entriesA_ok {E : Env} {base : Nat} {ρ : Place} {M : Mem} {w : World} (hc : Cons E base ρ M w) {x : AV} {y : Value} {es : List (AV × AV × Nat)} (hx : VR ρ x y) (he : entriesA M x = some es) :
    (es = [] ∧ y = .map none) ∨ ∃ r cl ents, y = .map (some r) ∧ ER ρ es ents.toList ∧ (getObj r).run E.P w = .ok (.map ents cl) w := by
  unfold entriesA at he
  split at he
  · simp only [Option.some.injEq] at he
    subst he
    simp only [VR] at hx
    exact .inl ⟨rfl, hx⟩
  · rename_i b
    split at he
    · rename_i es' cl hb
      simp only [Option.some.injEq] at he
      subst he
      simp only [VR] at hx
      obtain ⟨l, hl, rfl⟩ := hx
      obtain ⟨l', hl', _, ents, a1, a2⟩ := hc.blk b _ hb
      rw [hl, Option.some.injEq] at hl'
      subst hl'
      exact .inr ⟨_, cl, ents, rfl, a2, by simp [getObj, Sem.run, a1]⟩
    · cases he
  · cases he
theorem lookupA_ok {E : Env} {base : Nat} {ρ : Place} {M : Mem} {w : World} (hc : Cons E base ρ M w) {t : TypeId} {x i v : AV} {y j : Value} {ok : Bool} (hx : VR ρ x y) (hi : VR ρ i j)
    (h : lookupA E.P M t x i ok = some v) : ∃ z, (Instr.lookup t y j ok).run E.P w = .ok z w ∧ VR ρ v z := by
  unfold lookupA at h
  split at h
  · rename_i kt et hu
    split at h
    · rename_i k hk
      have := hi.lit _ _ _ hk
      subst this
      split at h
      · rename_i es he
        split at h
        · rename_i hf
          split at h
          · rename_i z hz
            simp only [Option.some.injEq] at h
            subst h
            refine ⟨_, ?_, lookupR_ok (ρ := ρ) (is := false) (x := z) (by simp [VR])⟩
            rcases entriesA_ok hc hx he with ⟨rfl, rfl⟩ | ⟨r, cl, ents, rfl, hER, hget⟩
            · obtain ⟨hck, hfk⟩ := findA_ok (ρ := ρ) (ents := []) (by simp [ER]) hf w
              simp only [] at hfk
              simp [Instr.lookup, run_underlying hu, hck, hfk, pureRun_run _ _ hz w]
            · obtain ⟨hck, hfk⟩ := findA_ok hER hf w
              simp only [] at hfk
              simp [Instr.lookup, run_underlying hu, hget, hck, hfk, pureRun_run _ _ hz w]
          · cases h
        · rename_i n hf
          split at h
          · rename_i a u b hes
            simp only [Option.some.injEq] at h
            subst h
            rcases entriesA_ok hc hx he with ⟨rfl, rfl⟩ | ⟨r, cl, ents, rfl, hER, hget⟩
            · simp at hes
            · obtain ⟨hck, e, he1, hfk⟩ := findA_ok hER hf w
              obtain ⟨k', v', n', a1, a2, a3, a4⟩ := hER.get he1
              rw [hes, Option.some.injEq, Prod.mk.injEq, Prod.mk.injEq] at a1
              obtain ⟨rfl, rfl, rfl⟩ := a1
              refine ⟨_, ?_, lookupR_ok (is := true) a3⟩
              simp [Instr.lookup, run_underlying hu, hget, hck, hfk]
          · cases h
        · cases h
      · cases h
    · cases h
  · cases h
def mapLenA (P : Program) (M : Mem) (t : TypeId) (x : AV) : Option AV :=
  match P.underlying t with
  | some (.map _ _) => match entriesA M x with
    | some es => some (.lit (goInt es.length))
    | none => none
  | _ => none
theorem mapLenA_ok {E : Env} {base : Nat} {ρ : Place} {M : Mem} {w : World} (hc : Cons E base ρ M w) {t u : TypeId} {ts : Array TypeId} (ht : ts[0]? = some t) {x v : AV} {y : Value} (hx : VR ρ x y)
    (h : mapLenA E.P M t x = some v) : ∃ z, (Builtin.len_ ts u #[y]).run E.P w = .ok z w ∧ VR ρ v z := by
  unfold mapLenA at h
  split at h
  · rename_i kt et hu
    split at h
    · rename_i es he
      simp only [Option.some.injEq] at h
      subst h
      refine ⟨goInt es.length, ?_, by simp [VR]⟩
      rcases entriesA_ok hc hx he with ⟨rfl, rfl⟩ | ⟨r, cl, ents, rfl, hER, hget⟩
      · simp [Builtin.len_, ht, run_underlying hu]
      · have hl := hER.length
        simp only [Array.length_toList] at hl
        simp [Builtin.len_, ht, run_underlying hu, hget, hl]
    · cases h
  · cases h
theorem setObj_run {P : Program} {w : World} {b : Nat} {es : Array MapEntry} {cl : Nat} {x : Obj} (h : w.heap[b]? = some (.map es cl)) : (setObj b x).run P w = .ok () { w with heap := w.heap.setIfInBounds b x } := by
  simp [setObj, Sem.run, h]
theorem setObj_at {w : World} {b : Nat} {o x : Obj} (h : w.heap[b]? = some o) : (w.heap.setIfInBounds b x)[b]? = some x := by
  have hlt : b < w.heap.size := by
    rcases Nat.lt_or_ge b w.heap.size with k | k
    · exact k
    · rw [Array.getElem?_eq_none k] at h; cases h
  simp [hlt]
theorem Step.mapSet {E : Env} {base : Nat} {ρ : Place} {M : Mem} {w : World} (hc : Cons E base ρ M w) {b : Nat} {es es' : List (AV × AV × Nat)} {cl cl' : Nat} {l : Loc} {ents ents' : Array MapEntry}
    (hb : M.bl.get b = some (.map es cl)) (hl : ρ b = some l) (h0 : l.off = 0) (hh : w.heap[l.blk]? = some (.map ents cl)) (hE : ER ρ es' ents'.toList) :
    Step E base ρ w M ρ { w with heap := w.heap.setIfInBounds l.blk (.map ents' cl') } ⟨M.next, M.bl.set b (.map es' cl')⟩ := by
  refine Step.over hc hb hl (by simp) (fun k hk => by simp only []; rw [Array.getElem?_setIfInBounds_ne (fun e => hk e.symm)]) ?_ rfl rfl rfl
  exact ⟨h0, ents', setObj_at hh, hE⟩
def updateA (P : Program) (M : Mem) (t : TypeId) (x k v : AV) : Option Mem :=
  match P.underlying t with
  | some (.map kt _) => match x with
    | .mapp b => match M.bl.get b with
      | some (.map es cl) => match k.lit? with
        | some key => match findA P kt key es with
          | some none => some ⟨M.next, M.bl.set b (.map (es ++ [(k, v, cl)]) (cl + 1))⟩
          | some (some j) => match es[j]? with
            | some (k0, _, _) => match k0.lit? with
              | some key0 => cond (Instr.sameBits 10000 key0 key) (some ⟨M.next, M.bl.set b (.map (es.modify j fun e => (k, v, e.2.2)) cl)⟩) none
              | none => none
            | none => none
          | none => none
        | none => none
      | _ => none
    | _ => none
  | _ => none
theorem updateA_ok {E : Env} {base : Nat} {ρ : Place} {M M' : Mem} {w : World} (hc : Cons E base ρ M w) {t : TypeId} {x k v : AV} {y z u : Value} (hx : VR ρ x y) (hk : VR ρ k z) (hv : VR ρ v u)
    (h : updateA E.P M t x k v = some M') : ∃ w', (Instr.mapUpdate t y z u).run E.P w = .ok () w' ∧ Step E base ρ w M ρ w' M' := by
  unfold updateA at h
  split at h
  · rename_i kt et hu
    split at h
    · rename_i b
      split at h
      · rename_i es cl hb
        split at h
        · rename_i key hkey
          have := hk.lit _ _ _ hkey
          subst this
          simp only [VR] at hx
          obtain ⟨l, hl, rfl⟩ := hx
          obtain ⟨l', hl', h0, ents, a1, a2⟩ := hc.blk b _ hb
          rw [hl, Option.some.injEq] at hl'
          subst hl'
          have hget : (getObj l.blk).run E.P w = .ok (.map ents cl) w := by simp [getObj, Sem.run, a1]
          split at h
          · rename_i hf
            simp only [Option.some.injEq] at h
            subst h
            obtain ⟨hck, hfk⟩ := findA_ok a2 hf w
            simp only [] at hfk
            refine ⟨_, ?_, Step.mapSet (es' := es ++ [(k, v, cl)]) (cl' := cl + 1) (ents' := ents.push { key := z, val := u, born := cl }) hc hb hl h0 a1 ?_⟩
            · simp [Instr.mapUpdate, run_underlying hu, hget, hck, hfk, setObj_run a1]
            · rw [Array.toList_push]
              exact a2.append ⟨_, [], rfl, hk, hv, rfl, rfl⟩
          · rename_i j hf
            split at h
            · rename_i k0 v0 n0 hes
              split at h
              · rename_i key0 hk0
                cases hsb : Instr.sameBits 10000 key0 z with
                | false => rw [hsb] at h; simp at h
                | true =>
                  rw [hsb] at h
                  simp only [cond_true, Option.some.injEq] at h
                  subst h
                  obtain ⟨hck, e, he1, hfk⟩ := findA_ok a2 hf w
                  obtain ⟨k', v', n', b1, b2, b3, b4⟩ := a2.get he1
                  rw [hes, Option.some.injEq, Prod.mk.injEq, Prod.mk.injEq] at b1
                  obtain ⟨rfl, rfl, rfl⟩ := b1
                  have hke := b2.lit _ _ _ hk0
                  subst hke
                  have he2 : ents[j]? = some e := by simpa using he1
                  refine ⟨_, ?_, Step.mapSet (es' := es.modify j fun e => (k, v, e.2.2)) (cl' := cl) (ents' := ents.modify j fun e => { e with key := z, val := u }) hc hb hl h0 a1 ?_⟩
                  · simp [Instr.mapUpdate, Instr.keyThatStays, run_underlying hu, hget, hck, hfk, he2, hsb, setObj_run a1]
                  · rw [Array.toList_modify]
                    exact ER.modify (fun _ _ _ _ _ _ h3 => ⟨hk, hv, h3⟩) j a2
              · cases h
            · cases h
          · cases h
        · cases h
      · cases h
    · cases h
  · cases h
def deleteA (P : Program) (M : Mem) (t : TypeId) (x k : AV) : Option Mem :=
  match P.underlying t with
  | some (.map kt _) => match x with
    | .mapp b => match M.bl.get b with
      | some (.map es cl) => match k.lit? with
        | some key => match findA P kt key es with
          | some none => some ⟨M.next, M.bl.set b (.map es cl)⟩
          | some (some j) => some ⟨M.next, M.bl.set b (.map (es.eraseIdx j) cl)⟩
          | none => none
        | none => none
      | _ => none
    | _ => none
  | _ => none
theorem deleteA_ok {E : Env} {base : Nat} {ρ : Place} {M M' : Mem} {w : World} (hc : Cons E base ρ M w) {t ty : TypeId} {ts : Array TypeId} (ht : ts[0]? = some t) {x k : AV} {y z : Value} (hx : VR ρ x y) (hk : VR ρ k z)
    (h : deleteA E.P M t x k = some M') : ∃ w', (Builtin.delete_ ts ty #[y, z]).run E.P w = .ok (.tuple #[]) w' ∧ Step E base ρ w M ρ w' M' := by
  unfold deleteA at h
  split at h
  · rename_i kt et hu
    split at h
    · rename_i b
      split at h
      · rename_i es cl hb
        split at h
        · rename_i key hkey
          have := hk.lit _ _ _ hkey
          subst this
          simp only [VR] at hx
          obtain ⟨l, hl, rfl⟩ := hx
          obtain ⟨l', hl', h0, ents, a1, a2⟩ := hc.blk b _ hb
          rw [hl, Option.some.injEq] at hl'
          subst hl'
          have hget : (getObj l.blk).run E.P w = .ok (.map ents cl) w := by simp [getObj, Sem.run, a1]
          split at h
          · rename_i hf
            simp only [Option.some.injEq] at h
            subst h
            obtain ⟨hck, hfk⟩ := findA_ok a2 hf w
            simp only [] at hfk
            refine ⟨_, ?_, Step.mapSet (es' := es) (cl' := cl) (ents' := ents) hc hb hl h0 a1 a2⟩
            simp [Builtin.delete_, ht, run_underlying hu, hget, hck, hfk, setObj_run a1]
          · rename_i j hf
            simp only [Option.some.injEq] at h
            subst h
            obtain ⟨hck, e, he1, hfk⟩ := findA_ok a2 hf w
            refine ⟨_, ?_, Step.mapSet (es' := es.eraseIdx j) (cl' := cl) (ents' := ents.eraseIdxIfInBounds j) hc hb hl h0 a1 ?_⟩
            · simp [Builtin.delete_, ht, run_underlying hu, hget, hck, hfk, setObj_run a1]
            · rw [Array.toList_eraseIdxIfInBounds]
              exact a2.erase j
          · cases h
        · cases h
      · cases h
    · cases h
  · cases h
def mapEntryA (P : Program) (M : Mem) (t : TypeId) (x k : AV) : Option (AV × Mem) :=
  match P.underlying t with
  | some (.map kt et) => match x with
    | .mapp b => match M.bl.get b with
      | some (.map es cl) => match k.lit? with
        | some key => match findA P kt key es with
          | some none => match pureRun P (zeroValue et) with
            | some z => some (.tuple [.lit z, .lit (.int .i64 cl)], ⟨M.next, M.bl.set b (.map (es ++ [(k, .lit z, cl)]) (cl + 1))⟩)
            | none => none
          | some (some j) => match es[j]? with
            | some (k0, v0, n0) => match k0.lit? with
              | some key0 => cond (Instr.sameBits 10000 key0 key) (some (.tuple [v0, .lit (.int .i64 n0)], ⟨M.next, M.bl.set b (.map (es.modify j fun e => (k, e.2.1, e.2.2)) cl)⟩)) none
              | none => none
            | none => none
          | none => none
        | none => none
      | _ => none
    | _ => none
  | _ => none
theorem mapEntryA_ok {E : Env} {base : Nat} {ρ : Place} {M M' : Mem} {w : World} (hc : Cons E base ρ M w) {t : TypeId} {x k v : AV} {y z : Value} (hx : VR ρ x y) (hk : VR ρ k z)
    (h : mapEntryA E.P M t x k = some (v, M')) : ∃ u w', (Instr.mapEntry t y z).run E.P w = .ok u w' ∧ VR ρ v u ∧ Step E base ρ w M ρ w' M' := by
  unfold mapEntryA at h
  split at h
  · rename_i kt et hu
    split at h
    · rename_i b
      split at h
      · rename_i es cl hb
        split at h
        · rename_i key hkey
          have := hk.lit _ _ _ hkey
          subst this
          simp only [VR] at hx
          obtain ⟨l, hl, rfl⟩ := hx
          obtain ⟨l', hl', h0, ents, a1, a2⟩ := hc.blk b _ hb
          rw [hl, Option.some.injEq] at hl'
          subst hl'
          have hget : (getObj l.blk).run E.P w = .ok (.map ents cl) w := by simp [getObj, Sem.run, a1]
          split at h
          · rename_i hf
            split at h
            · rename_i zv hz
              simp only [Option.some.injEq, Prod.mk.injEq] at h
              obtain ⟨rfl, rfl⟩ := h
              obtain ⟨hck, hfk⟩ := findA_ok a2 hf w
              simp only [] at hfk
              refine ⟨.tuple #[zv, goInt cl], _, ?_, ?_, Step.mapSet (es' := es ++ [(k, .lit zv, cl)]) (cl' := cl + 1) (ents' := ents.push { key := z, val := zv, born := cl }) hc hb hl h0 a1 ?_⟩
              · simp [Instr.mapEntry, run_underlying hu, hget, hck, hfk, pureRun_run _ _ hz, setObj_run a1]
              · simp only [VR, VRs, goInt]
                exact ⟨_, rfl, _, _, rfl, rfl, _, _, rfl, rfl, rfl⟩
              · rw [Array.toList_push]
                exact a2.append ⟨_, [], rfl, hk, by simp only [VR], rfl, rfl⟩
            · cases h
          · rename_i j hf
            split at h
            · rename_i k0 v0 n0 hes
              split at h
              · rename_i key0 hk0
                cases hsb : Instr.sameBits 10000 key0 z with
                | false => rw [hsb] at h; simp at h
                | true =>
                  rw [hsb] at h
                  simp only [cond_true, Option.some.injEq, Prod.mk.injEq] at h
                  obtain ⟨rfl, rfl⟩ := h
                  obtain ⟨hck, e, he1, hfk⟩ := findA_ok a2 hf w
                  obtain ⟨k', v', n', b1, b2, b3, b4⟩ := a2.get he1
                  rw [hes, Option.some.injEq, Prod.mk.injEq, Prod.mk.injEq] at b1
                  obtain ⟨rfl, rfl, rfl⟩ := b1
                  have hke := b2.lit _ _ _ hk0
                  subst hke
                  have he2 : ents[j]? = some e := by simpa using he1
                  refine ⟨.tuple #[e.val, goInt e.born], _, ?_, ?_, Step.mapSet (es' := es.modify j fun e => (k, e.2.1, e.2.2)) (cl' := cl) (ents' := ents.modify j fun e => { e with key := z }) hc hb hl h0 a1 ?_⟩
                  · simp [Instr.mapEntry, Instr.keyThatStays, run_underlying hu, hget, hck, hfk, he2, hsb, setObj_run a1]
                  · simp only [VR, VRs, goInt]
                    exact ⟨_, rfl, _, _, rfl, b3, _, _, rfl, by rw [b4], rfl⟩
                  · rw [Array.toList_modify]
                    exact ER.modify (fun _ _ _ _ _ h2 h3 => ⟨hk, h2, h3⟩) j a2
              · cases h
            · cases h
          · cases h
        · cases h
      · cases h
    · cases h
  · cases h
theorem ER.findIdx {ρ : Place} (p : Nat → Bool) : ∀ {es : List (AV × AV × Nat)} {a : List MapEntry}, ER ρ es a → a.findIdx? (fun e => p e.born) = es.findIdx? (fun e => p e.2.2)
  | [], _, h => by simp only [ER] at h; subst h; rfl
  | (k, v, n) :: r, _, h => by
    simp only [ER] at h
    obtain ⟨x, xs, rfl, h1, h2, h3, h4⟩ := h
    simp only [List.findIdx?_cons, h3, ER.findIdx p h4]
def entryStoreA (M : Mem) (x s v : AV) : Option Mem :=
  match x with
  | .mapp b => match M.bl.get b with
    | some (.map es cl) => match s with
      | .lit (.int _ born) => match es.findIdx? fun e => (e.2.2 : Int) == born with
        | some j => some ⟨M.next, M.bl.set b (.map (es.modify j fun e => (e.1, v, e.2.2)) cl)⟩
        | none => none
      | _ => none
    | _ => none
  | _ => none
theorem entryStoreA_ok {E : Env} {base : Nat} {ρ : Place} {M M' : Mem} {w : World} (hc : Cons E base ρ M w) {t : TypeId} {x s v : AV} {y z u : Value} (hx : VR ρ x y) (hs : VR ρ s z) (hv : VR ρ v u)
    (h : entryStoreA M x s v = some M') : ∃ w', (Instr.entryStore t y z u).run E.P w = .ok () w' ∧ Step E base ρ w M ρ w' M' := by
  unfold entryStoreA at h
  split at h
  · rename_i b
    split at h
    · rename_i es cl hb
      split at h
      · rename_i kd born
        split at h
        · rename_i j hj
          simp only [Option.some.injEq] at h
          subst h
          simp only [VR] at hx hs
          subst hs
          obtain ⟨l, hl, rfl⟩ := hx
          obtain ⟨l', hl', h0, ents, a1, a2⟩ := hc.blk b _ hb
          rw [hl, Option.some.injEq] at hl'
          subst hl'
          have hget : (getObj l.blk).run E.P w = .ok (.map ents cl) w := by simp [getObj, Sem.run, a1]
          have hfi : ents.findIdx? (fun e => (e.born : Int) == born) = some j := by
            have hto : ents.findIdx? (fun e => (e.born : Int) == born) = ents.toList.findIdx? (fun e => (e.born : Int) == born) := by
              rcases ents with ⟨l⟩
              simp
            rw [hto]
            exact (ER.findIdx (fun n => (n : Int) == born) a2).trans hj
          refine ⟨_, ?_, Step.mapSet (es' := es.modify j fun e => (e.1, v, e.2.2)) (cl' := cl) (ents' := ents.modify j fun e => { e with val := u }) hc hb hl h0 a1 ?_⟩
          · simp [Instr.entryStore, asInt, asIntOf, hget, hfi, setObj_run a1]
          · rw [Array.toList_modify]
            exact ER.modify (fun _ _ _ _ h1 _ h3 => ⟨h1, hv, h3⟩) j a2
        · cases h
      · cases h
    · cases h
  · cases h
def hasTy : Value → Ty → Bool
  | .int k _, .int k' => decide (k = k')
  | .bool _, .bool => true
  | .string _, .str => true
  | .float k _, .flt k' => decide (k = k')
  | _, _ => false
inductive OpK where
  | cmp
  | arith
  | other
def opK : BinOp → OpK
  | .eql | .neq | .lss | .leq | .gtr | .geq => .cmp
  | .add | .sub | .mul | .and | .or | .xor | .andNot => .arith
  | _ => .other
def eqOp : BinOp → Bool
  | .eql | .neq => true
  | _ => false
def tyOf (ts : T Ty) : Exp → Option Ty
  | .sym k => ts.get k
  | .lit (.int k _) => some (.int k)
  | .lit (.bool _) => some .bool
  | .lit (.string _) => some .str
  | .lit (.float k _) => some (.flt k)
  | .lit _ => none
  | .bin o a b => match tyOf ts a, tyOf ts b with
    | some (.int k), some (.int k') => match decide (k = k') with
      | true => match opK o with
        | .cmp => some .bool
        | .arith => some (.int k)
        | .other => none
      | false => none
    | some .str, some .str => match opK o with
      | .cmp => some .bool
      | _ => none
    | some (.flt k), some (.flt k') => match decide (k = k') with
      | true => match opK o with
        | .cmp => some .bool
        | _ => none
      | false => none
    | some .bool, some .bool => match eqOp o with
      | true => some .bool
      | false => none
    | _, _ => none
  | .not a => match tyOf ts a with
    | some .bool => some .bool
    | _ => none
  | .len a => match tyOf ts a with
    | some .str => some (.int .i64)
    | _ => none
theorem hasTy_int {v : Value} {k : IntKind} (h : hasTy v (.int k) = true) : ∃ n, v = .int k n := by
  unfold hasTy at h
  split at h <;> first | (rename_i he; cases he) | skip
  all_goals first | (simp only [decide_eq_true_eq] at h; subst h; exact ⟨_, rfl⟩) | cases h
theorem hasTy_bool {v : Value} (h : hasTy v .bool = true) : ∃ b, v = .bool b := by
  cases v <;> first | exact ⟨_, rfl⟩ | simp [hasTy] at h
theorem hasTy_str {v : Value} (h : hasTy v .str = true) : ∃ s, v = .string s := by
  cases v <;> first | exact ⟨_, rfl⟩ | simp [hasTy] at h
theorem hasTy_flt {v : Value} {k : FloatKind} (h : hasTy v (.flt k) = true) : ∃ n, v = .float k n := by
  cases v <;> first | (simp only [hasTy, decide_eq_true_eq] at h; subst h; exact ⟨_, rfl⟩) | simp [hasTy] at h
theorem tyOf_ok {ts : T Ty} {σ : Place} (ht : ∀ k t, ts.get k = some t → ∃ l, σ k = some l ∧ hasTy l.val t = true) : ∀ (e : Exp) (t : Ty), tyOf ts e = some t → ∃ v, e.ev σ = some v ∧ hasTy v t = true
  | .sym k, t, h => by
    obtain ⟨l, h1, h2⟩ := ht k t h
    exact ⟨l.val, by simp only [Exp.ev, h1], h2⟩
  | .lit v, t, h => by
    refine ⟨v, rfl, ?_⟩
    cases v <;> simp only [tyOf, Option.some.injEq, reduceCtorEq] at h <;> subst h <;> simp [hasTy]
  | .bin o a b, t, h => by
    simp only [tyOf] at h
    split at h
    · rename_i k k' ha hb
      obtain ⟨x, ex, hx⟩ := tyOf_ok ht a _ ha
      obtain ⟨y, ey, hy⟩ := tyOf_ok ht b _ hb
      obtain ⟨p, rfl⟩ := hasTy_int hx
      obtain ⟨q, rfl⟩ := hasTy_int hy
      simp only [Exp.ev, ex, ey]
      split at h
      · rename_i hk
        have hk := of_decide_eq_true hk
        subst hk
        cases o <;> simp only [opK, Option.some.injEq, reduceCtorEq] at h <;> subst h <;>
          simp [evBin, Go.binOp, Op.intCmp, Op.intArith, Op.intBits, pure, pure0, hasTy]
      · cases h
    · rename_i ha hb
      obtain ⟨x, ex, hx⟩ := tyOf_ok ht a _ ha
      obtain ⟨y, ey, hy⟩ := tyOf_ok ht b _ hb
      obtain ⟨p, rfl⟩ := hasTy_str hx
      obtain ⟨q, rfl⟩ := hasTy_str hy
      simp only [Exp.ev, ex, ey]
      cases o <;> simp only [opK, Option.some.injEq, reduceCtorEq] at h <;> subst h <;>
          simp [evBin, Go.binOp, Op.stringOp, pure, pure0, hasTy]
    · rename_i k k' ha hb
      obtain ⟨x, ex, hx⟩ := tyOf_ok ht a _ ha
      obtain ⟨y, ey, hy⟩ := tyOf_ok ht b _ hb
      obtain ⟨p, rfl⟩ := hasTy_flt hx
      obtain ⟨q, rfl⟩ := hasTy_flt hy
      simp only [Exp.ev, ex, ey]
      split at h
      · rename_i hk
        have hk := of_decide_eq_true hk
        subst hk
        cases o <;> simp only [opK, Option.some.injEq, reduceCtorEq] at h <;> subst h <;>
          simp [evBin, Go.binOp, Op.floatCmp, pure, pure0, hasTy]
      · cases h
    · rename_i ha hb
      obtain ⟨x, ex, hx⟩ := tyOf_ok ht a _ ha
      obtain ⟨y, ey, hy⟩ := tyOf_ok ht b _ hb
      obtain ⟨p, rfl⟩ := hasTy_bool hx
      obtain ⟨q, rfl⟩ := hasTy_bool hy
      simp only [Exp.ev, ex, ey]
      cases o <;> simp only [eqOp, Option.some.injEq, reduceCtorEq] at h <;> subst h <;> simp [evBin, hasTy]
    · cases h
  | .not a, t, h => by
    simp only [tyOf] at h
    split at h
    · rename_i ha
      simp only [Option.some.injEq] at h
      subst h
      obtain ⟨x, ex, hx⟩ := tyOf_ok ht a _ ha
      obtain ⟨p, rfl⟩ := hasTy_bool hx
      exact ⟨.bool !p, by simp only [Exp.ev, ex], rfl⟩
    · cases h
  | .len a, t, h => by
    simp only [tyOf] at h
    split at h
    · rename_i ha
      simp only [Option.some.injEq] at h
      subst h
      obtain ⟨x, ex, hx⟩ := tyOf_ok ht a _ ha
      obtain ⟨p, rfl⟩ := hasTy_str hx
      exact ⟨_, by simp only [Exp.ev, ex]; rfl, by simp [hasTy]⟩
    · cases h
def litSame : Value → Value → Bool
  | .int k a, .int k' b => match decide (k = k') with
    | true => decide (a = b)
    | false => false
  | .bool a, .bool b => match a, b with
    | true, true => true
    | false, false => true
    | _, _ => false
  | .string a, .string b => decide (a = b)
  | .float k a, .float k' b => match decide (k = k') with
    | true => decide (a = b)
    | false => false
  | _, _ => false
theorem litSame_ok {v w : Value} (h : litSame v w = true) : v = w := by
  unfold litSame at h
  split at h
  · split at h
    · rename_i hk
      have hk := of_decide_eq_true hk
      have h := of_decide_eq_true h
      rw [hk, h]
    · cases h
  · split at h
    · rfl
    · rfl
    · cases h
  · have h := of_decide_eq_true h
    rw [h]
  · split at h
    · rename_i hk
      have hk := of_decide_eq_true hk
      have h := of_decide_eq_true h
      rw [hk, h]
    · cases h
  · cases h
def Exp.same : Exp → Exp → Bool
  | .sym a, .sym b => Nat.beq a b
  | .lit v, .lit w => litSame v w
  | .bin o a b, .bin o' a' b' => match decide (o = o') with
    | true => match a.same a' with
      | true => b.same b'
      | false => false
    | false => false
  | .not a, .not b => a.same b
  | .len a, .len b => a.same b
  | _, _ => false
theorem Exp.same_ok : ∀ {a b : Exp}, a.same b = true → a = b
  | .sym a, b, h => by
    cases b <;> simp only [Exp.same, Bool.false_eq_true] at h
    rw [Nat.eq_of_beq_eq_true h]
  | .lit v, b, h => by
    cases b <;> simp only [Exp.same, Bool.false_eq_true] at h
    rw [litSame_ok h]
  | .bin o x y, b, h => by
    cases b <;> simp only [Exp.same, Bool.false_eq_true] at h
    split at h
    · rename_i ho
      split at h
      · rename_i hx
        rw [of_decide_eq_true ho, Exp.same_ok hx, Exp.same_ok h]
      · cases h
    · cases h
  | .not x, b, h => by
    cases b <;> simp only [Exp.same, Bool.false_eq_true] at h
    rw [Exp.same_ok h]
  | .len x, b, h => by
    cases b <;> simp only [Exp.same, Bool.false_eq_true] at h
    rw [Exp.same_ok h]
structure Bd where
  lo : Option Int
  hi : Option Int
  ne : List Int
def Bd.holds (b : Bd) (n : Int) : Prop := (∀ l, b.lo = some l → l ≤ n) ∧ (∀ h, b.hi = some h → n ≤ h) ∧ ∀ d ∈ b.ne, n ≠ d
def maxO : Option Int → Int → Option Int
  | none, c => some c
  | some l, c => some (if l ≤ c then c else l)
def minO : Option Int → Int → Option Int
  | none, c => some c
  | some l, c => some (if l ≤ c then l else c)
def Bd.tell (b : Bd) (o : BinOp) (t : Bool) (c : Int) : Bd :=
  match o, t with
  | .eql, true | .neq, false => ⟨maxO b.lo c, minO b.hi c, b.ne⟩
  | .eql, false | .neq, true => ⟨b.lo, b.hi, c :: b.ne⟩
  | .lss, true | .geq, false => ⟨b.lo, minO b.hi (c - 1), b.ne⟩
  | .lss, false | .geq, true => ⟨maxO b.lo c, b.hi, b.ne⟩
  | .leq, true | .gtr, false => ⟨b.lo, minO b.hi c, b.ne⟩
  | .leq, false | .gtr, true => ⟨maxO b.lo (c + 1), b.hi, b.ne⟩
  | _, _ => b
def cmpInt (o : BinOp) (x y : Int) : Option Bool :=
  match o with
  | .eql => some (decide (x = y))
  | .neq => some (!decide (x = y))
  | .lss => some (decide (x < y))
  | .leq => some (decide (x ≤ y))
  | .gtr => some (decide (y < x))
  | .geq => some (decide (y ≤ x))
  | _ => none
theorem maxO_ok {o : Option Int} {c l n : Int} (h1 : ∀ l, o = some l → l ≤ n) (h2 : c ≤ n) (h : maxO o c = some l) : l ≤ n := by
  cases o with
  | none => simp only [maxO, Option.some.injEq] at h; omega
  | some q =>
    have := h1 q rfl
    simp only [maxO, Option.some.injEq] at h
    split at h <;> omega
theorem minO_ok {o : Option Int} {c l n : Int} (h1 : ∀ l, o = some l → n ≤ l) (h2 : n ≤ c) (h : minO o c = some l) : n ≤ l := by
  cases o with
  | none => simp only [minO, Option.some.injEq] at h; omega
  | some q =>
    have := h1 q rfl
    simp only [minO, Option.some.injEq] at h
    split at h <;> omega
theorem Bd.tell_ok {b : Bd} {n c : Int} {o : BinOp} {t : Bool} (hb : b.holds n) (h : cmpInt o n c = some t) : (b.tell o t c).holds n := by
  obtain ⟨h1, h2, h3⟩ := hb
  have hlo : ∀ d, d ≤ n → ∀ l, maxO b.lo d = some l → l ≤ n := fun d hd l hl => maxO_ok h1 hd hl
  have hhi : ∀ d, n ≤ d → ∀ l, minO b.hi d = some l → n ≤ l := fun d hd l hl => minO_ok h2 hd hl
  have hne : n ≠ c → ∀ d ∈ c :: b.ne, n ≠ d := fun hc d hd => by
    rcases List.mem_cons.1 hd with rfl | hd
    · exact hc
    · exact h3 d hd
  cases o <;> cases t <;> simp only [cmpInt, Option.some.injEq, decide_eq_true_eq, decide_eq_false_iff_not, Bool.not_eq_true', Bool.not_eq_false', reduceCtorEq] at h <;> simp only [Bd.tell]
  all_goals first
    | exact ⟨h1, h2, h3⟩
    | exact ⟨hlo c (by omega), hhi c (by omega), h3⟩
    | exact ⟨h1, h2, hne (by omega)⟩
    | exact ⟨h1, hhi (c - 1) (by omega), h3⟩
    | exact ⟨hlo c (by omega), h2, h3⟩
    | exact ⟨h1, hhi c (by omega), h3⟩
    | exact ⟨hlo (c + 1) (by omega), h2, h3⟩
def tell1 (x : Exp) (b : Bd) (f : Exp × Bool) : Bd :=
  match f.1 with
  | .bin o y (.lit (.int _ c)) => match x.same y with
    | true => b.tell o f.2 c
    | false => b
  | _ => b
def tells (x : Exp) : List (Exp × Bool) → Bd → Bd
  | [], b => b
  | f :: r, b => tells x r (tell1 x b f)
theorem evBin_int {o : BinOp} {k k' : IntKind} {n c : Int} {t : Bool} (h : evBin o (.int k n) (.int k' c) = some (.bool t)) : k = k' ∧ cmpInt o n c = some t := by
  unfold evBin at h
  by_cases hk : k = k'
  · subst hk
    refine ⟨rfl, ?_⟩
    cases o <;> simp [Go.binOp, Op.intCmp, Op.intArith, Op.intBits, Op.intDiv, Op.shift, pure, pure0, cmpInt] at h ⊢
    all_goals first
      | exact h
      | (rw [← h]; rw [Bool.eq_iff_iff]; simp; done)
      | (split at h <;> cases h)
  · exfalso
    cases o <;> simp [Go.binOp, hk, pure0, stuck, Op.shift] at h
    all_goals (split at h <;> cases h)
theorem tell1_ok {σ : Place} {x : Exp} {k : IntKind} {n : Int} (hx : x.ev σ = some (.int k n)) {b : Bd} {f : Exp × Bool} (hf : f.1.ev σ = some (.bool f.2)) (hb : b.holds n) : (tell1 x b f).holds n := by
  unfold tell1
  split
  · rename_i o y kd c heq
    split
    · rename_i hs
      have := Exp.same_ok hs
      subst this
      rw [heq] at hf
      simp only [Exp.ev, hx] at hf
      exact Bd.tell_ok hb (evBin_int hf).2
    · exact hb
  · exact hb
theorem tells_ok {σ : Place} {x : Exp} {k : IntKind} {n : Int} (hx : x.ev σ = some (.int k n)) : ∀ (l : List (Exp × Bool)) (b : Bd), (∀ f ∈ l, f.1.ev σ = some (.bool f.2)) → b.holds n → (tells x l b).holds n
  | [], b, _, hb => hb
  | f :: r, b, hl, hb => tells_ok hx r _ (fun g hg => hl g (by simp [hg])) (tell1_ok hx (hl f (by simp)) hb)
def memI (c : Int) : List Int → Bool
  | [] => false
  | d :: r => match decide (c = d) with
    | true => true
    | false => memI c r
theorem memI_ok {c : Int} : ∀ {l : List Int}, memI c l = true → c ∈ l
  | [], h => by simp [memI] at h
  | d :: r, h => by
    unfold memI at h
    split at h
    · rename_i hc; rw [of_decide_eq_true hc]; simp
    · exact List.mem_cons_of_mem _ (memI_ok h)
def bump : Nat → Int → List Int → Int
  | 0, l, _ => l
  | k + 1, l, ne => match memI l ne with
    | true => bump k (l + 1) ne
    | false => l
theorem bump_ok {n : Int} {ne : List Int} (hne : ∀ d ∈ ne, n ≠ d) : ∀ (k : Nat) (l : Int), l ≤ n → bump k l ne ≤ n
  | 0, l, h => h
  | k + 1, l, h => by
    unfold bump
    split
    · rename_i hm
      have := hne l (memI_ok hm)
      exact bump_ok hne k (l + 1) (by omega)
    · exact h
def ltKnown (b : Bd) (c : Int) : Option Bool :=
  match (match b.hi with
    | some h => decide (h < c)
    | none => false) with
  | true => some true
  | false => match b.lo with
    | some l => match decide (c ≤ bump b.ne.length l b.ne) with
      | true => some false
      | false => none
    | none => none
theorem ltKnown_ok {b : Bd} {n c : Int} {t : Bool} (hb : b.holds n) (h : ltKnown b c = some t) : decide (n < c) = t := by
  obtain ⟨h1, h2, h3⟩ := hb
  unfold ltKnown at h
  split at h
  · rename_i hh
    simp only [Option.some.injEq] at h
    subst h
    split at hh
    · rename_i q hq
      have := h2 q hq
      have := of_decide_eq_true hh
      simp; omega
    · cases hh
  · split at h
    · rename_i l hl
      split at h
      · rename_i hc
        simp only [Option.some.injEq] at h
        subst h
        have := of_decide_eq_true hc
        have := bump_ok h3 b.ne.length l (h1 l hl)
        simp; omega
      · cases h
    · cases h
def eqKnown (b : Bd) (c : Int) : Option Bool :=
  match memI c b.ne with
  | true => some false
  | false => match ltKnown b c with
    | some true => some false
    | some false => match ltKnown b (c + 1) with
      | some true => some true
      | some false => some false
      | none => none
    | none => match ltKnown b (c + 1) with
      | some false => some false
      | _ => none
theorem eqKnown_ok {b : Bd} {n c : Int} {t : Bool} (hb : b.holds n) (h : eqKnown b c = some t) : decide (n = c) = t := by
  have h3 := hb.2.2
  unfold eqKnown at h
  split at h
  · rename_i hm
    simp only [Option.some.injEq] at h
    subst h
    have := h3 c (memI_ok hm)
    simpa using this
  · split at h
    · rename_i hl
      simp only [Option.some.injEq] at h
      subst h
      have := ltKnown_ok hb hl
      simp at this ⊢; omega
    · rename_i hl
      have h4 := ltKnown_ok hb hl
      split at h
      · rename_i hl2
        simp only [Option.some.injEq] at h
        subst h
        have := ltKnown_ok hb hl2
        simp at this h4 ⊢; omega
      · rename_i hl2
        simp only [Option.some.injEq] at h
        subst h
        have := ltKnown_ok hb hl2
        simp at this ⊢; omega
      · cases h
    · split at h
      · rename_i hl2
        simp only [Option.some.injEq] at h
        subst h
        have := ltKnown_ok hb hl2
        simp at this ⊢; omega
      · cases h
def notO : Option Bool → Option Bool
  | some b => some !b
  | none => none
def decBd (b : Bd) (o : BinOp) (c : Int) : Option Bool :=
  match o with
  | .eql => eqKnown b c
  | .neq => notO (eqKnown b c)
  | .lss => ltKnown b c
  | .geq => notO (ltKnown b c)
  | .leq => ltKnown b (c + 1)
  | .gtr => notO (ltKnown b (c + 1))
  | _ => none
theorem decBd_ok {b : Bd} {o : BinOp} {n c : Int} {t : Bool} (hb : b.holds n) (h : decBd b o c = some t) : cmpInt o n c = some t := by
  have key : ∀ {q : Option Bool} {t : Bool}, notO q = some t → q = some !t := by
    intro q t hq
    cases q with
    | none => cases hq
    | some b => simp only [notO, Option.some.injEq] at hq; subst hq; simp
  cases o <;> simp only [decBd, reduceCtorEq] at h <;> simp only [cmpInt, Option.some.injEq]
  · exact eqKnown_ok hb h
  · have := eqKnown_ok hb (key h); rw [this]; simp
  · exact ltKnown_ok hb h
  · have := ltKnown_ok hb h; rw [← this]; rw [decide_eq_decide]; omega
  · have := ltKnown_ok hb (key h)
    cases t <;> simp at this ⊢ <;> omega
  · have := ltKnown_ok hb (key h)
    cases t <;> simp at this ⊢ <;> omega
def look (e : Exp) : List (Exp × Bool) → Option Bool
  | [] => none
  | f :: r => match e.same f.1 with
    | true => some f.2
    | false => look e r
theorem look_ok {σ : Place} {e : Exp} {t : Bool} : ∀ {l : List (Exp × Bool)}, (∀ f ∈ l, f.1.ev σ = some (.bool f.2)) → look e l = some t → e.ev σ = some (.bool t)
  | [], _, h => by simp [look] at h
  | f :: r, hl, h => by
    unfold look at h
    split at h
    · rename_i hs
      simp only [Option.some.injEq] at h
      rw [Exp.same_ok hs, hl f (by simp), h]
    · exact look_ok (fun g hg => hl g (by simp [hg])) h
def startBd : Exp → Bd
  | .len _ => ⟨some 0, none, []⟩
  | _ => ⟨none, none, []⟩
theorem startBd_ok {σ : Place} {x : Exp} {k : IntKind} {n : Int} (hx : x.ev σ = some (.int k n)) : (startBd x).holds n := by
  cases x with
  | len a =>
    simp only [Exp.ev] at hx
    split at hx
    · simp only [Option.some.injEq, Value.int.injEq] at hx
      refine ⟨fun l hl => ?_, (fun h hh => by cases hh), (fun d hd => by cases hd)⟩
      simp only [startBd, Option.some.injEq] at hl
      omega
    · cases hx
  | _ => exact ⟨(fun l hl => by cases hl), (fun h hh => by cases hh), (fun d hd => by cases hd)⟩
def decideE (facts : List (Exp × Bool)) (e : Exp) : Option Bool :=
  match look e facts with
  | some b => some b
  | none => match e with
    | .bin o x (.lit (.int _ c)) => decBd (tells x facts (startBd x)) o c
    | .bin .eql x (.lit (.bool c)) => match look x facts with
      | some b => some (b == c)
      | none => none
    | .bin .neq x y => notO (look (.bin .eql x y) facts)
    | .not a => notO (look a facts)
    | _ => none
theorem evBin_neq {x y : Value} {q : Bool} (h : evBin .eql x y = some (.bool q)) : evBin .neq x y = some (.bool !q) := by
  unfold evBin at h ⊢
  split at h
  · rename_i k a k' b
    by_cases hk : k = k'
    · subst hk
      simp [Go.binOp, Op.intCmp, pure, pure0] at h ⊢
      rw [← h]
      rfl
    · simp [Go.binOp, hk, pure0, stuck] at h
  · rename_i k a k' b
    by_cases hk : k = k'
    · subst hk
      simp [Go.binOp, Op.floatCmp, pure, pure0] at h ⊢
      rw [← h]
      simp [bne]
    · simp [Go.binOp, hk, pure0, stuck] at h
  · simp [Go.binOp, Op.stringOp, pure, pure0] at h ⊢
    rw [← h]
  · simp at h ⊢
    rw [← h]
    simp [bne]
  · cases h
theorem cmpInt_ev {o : BinOp} {k : IntKind} {n c : Int} {t : Bool} (h : cmpInt o n c = some t) : evBin o (.int k n) (.int k c) = some (.bool t) := by
  cases o <;> simp only [cmpInt, Option.some.injEq, reduceCtorEq] at h <;> subst h <;> simp [evBin, Go.binOp, Op.intCmp, pure, pure0]
  all_goals (rw [Bool.eq_iff_iff]; simp)
theorem decideE_ok {ts : T Ty} {σ : Place} (ht : ∀ k t, ts.get k = some t → ∃ l, σ k = some l ∧ hasTy l.val t = true) {facts : List (Exp × Bool)} (hf : ∀ f ∈ facts, f.1.ev σ = some (.bool f.2)) {e : Exp} {b : Bool}
    (hty : tyOf ts e = some .bool) (h : decideE facts e = some b) : e.ev σ = some (.bool b) := by
  unfold decideE at h
  split at h
  · rename_i q hq
    simp only [Option.some.injEq] at h
    subst h
    exact look_ok hf hq
  · split at h
    · rename_i o x kd c _
      simp only [tyOf] at hty
      split at hty
      · rename_i k k' ha hb
        obtain ⟨v, ev, hv⟩ := tyOf_ok ht x _ ha
        obtain ⟨n, rfl⟩ := hasTy_int hv
        simp only [Option.some.injEq, Ty.int.injEq] at hb
        subst hb
        split at hty
        · rename_i hk
          have hk := of_decide_eq_true hk
          subst hk
          have := decBd_ok (tells_ok ev facts (startBd x) hf (startBd_ok ev)) h
          simp only [Exp.ev, ev]
          exact cmpInt_ev this
        · cases hty
      all_goals first
        | (rename_i ha hb; simp at hb; done)
        | cases hty
    · rename_i x c _
      split at h
      · rename_i b' hb'
        simp only [Option.some.injEq] at h
        subst h
        simp only [Exp.ev, look_ok hf hb', evBin]
      · cases h
    · rename_i x y _ _
      unfold notO at h
      split at h
      · rename_i q hq
        simp only [Option.some.injEq] at h
        subst h
        have := look_ok hf hq
        simp only [Exp.ev] at this ⊢
        split at this
        · rename_i v1 v2 e1 e2
          exact evBin_neq this
        · cases this
      · cases h
    · rename_i a _
      unfold notO at h
      split at h
      · rename_i q hq
        simp only [Option.some.injEq] at h
        subst h
        simp only [Exp.ev, look_ok hf hq]
      · cases h
    · cases h
def resolveE (ts : T Ty) (facts : List (Exp × Bool)) (e : Exp) : Option AV :=
  match tyOf ts e with
  | some .bool => match decideE facts e with
    | some b => some (.lit (.bool b))
    | none => some (.ex e)
  | some _ => some (.ex e)
  | none => none
theorem resolveE_ok {ts : T Ty} {σ ρ : Place} (hle : σ.le ρ) (ht : ∀ k t, ts.get k = some t → ∃ l, σ k = some l ∧ hasTy l.val t = true) {facts : List (Exp × Bool)} (hf : ∀ f ∈ facts, f.1.ev σ = some (.bool f.2)) {e : Exp} {a : AV}
    (h : resolveE ts facts e = some a) : ∃ v, e.ev ρ = some v ∧ VR ρ a v := by
  have one : ∀ {v : Value} {t : Ty}, hasTy v t = true → v.oneCell' = true := by
    intro v t hv
    cases v <;> first | rfl | (cases t <;> simp [hasTy] at hv)
  unfold resolveE at h
  split at h
  · rename_i hty
    split at h
    · rename_i b hb
      simp only [Option.some.injEq] at h
      subst h
      exact ⟨.bool b, Exp.ev_mono hle (decideE_ok ht hf hty hb), by simp [VR]⟩
    · simp only [Option.some.injEq] at h
      subst h
      obtain ⟨v, h1, h2⟩ := tyOf_ok ht e _ hty
      exact ⟨v, Exp.ev_mono hle h1, by simp only [VR]; exact ⟨Exp.ev_mono hle h1, one h2⟩⟩
  · rename_i t hty
    simp only [Option.some.injEq] at h
    subst h
    obtain ⟨v, h1, h2⟩ := tyOf_ok ht e _ hty
    exact ⟨v, Exp.ev_mono hle h1, by simp only [VR]; exact ⟨Exp.ev_mono hle h1, one h2⟩⟩
  · cases h
open Go.Instr
def extSem (bt : TypeId) : Nat → Array Value → Sem Value
  | 0 => Extern.AbiNoEscape.same
  | 1 => Extern.MathFloatBits.float64bits
  | 2 => Extern.MathFloatBits.float64frombits
  | 3 => Extern.BytealgIndexByte.indexByte
  | 4 => Extern.BytealgCount.count
  | 5 => Extern.BytealgMakeNoZero.makeNoZero #[] #[bt]
  | 6 => Extern.MathFloatBits.float32bits
  | 7 => Extern.MathFloatBits.float32frombits
  | 8 => Extern.MathFloor.toIntegral "math.archFloor" .down
  | 9 => Extern.MathFloor.toIntegral "math.archCeil" .up
  | 10 => Extern.MathFloor.toIntegral "math.archTrunc" .zero
  | 11 => Extern.MapsClone.clone
  | _ => fun _ => stuck ""
structure Env.OK (E : Env) : Prop where
  mixed : E.P.follows .mixedOrders = true
  fn : ∀ f fn, E.fn.get f = some fn → E.P.funcs[f]? = some fn ∧ ∀ args w, (callFunc f args).run E.P w = .ok (.enter f args) w
  ext : ∀ f k, E.ext.get f = some k → ∀ args w, (callFunc f args).run E.P w = ((do pure (.value (← extSem E.bt k args))) : Sem Next).run E.P w
  con : ∀ f args v, E.con f args = some v → ∀ (base : Nat) (ρ : Place) (w : World) (vals : List Value), E.Still base w → E.sy.le ρ → base ≤ w.heap.size → VRs ρ args vals →
    Calls E.P f vals.toArray w fun e w' => ∃ x, e = .returned x ∧ VR ρ v x ∧ RowKit.Below w.heap.size w w'
  ty : ∀ k t, E.tys.get k = some t → ∃ l, E.sy k = some l ∧ hasTy l.val t = true
  fact : ∀ f ∈ E.facts, f.1.ev E.sy = some (.bool f.2)
  opc : ∀ op g v, E.opc op g = some v → ∀ (base : Nat) (ρ : Place) (w : World) (e : Operand → Value), E.Still base w → E.sy.le ρ → (∀ x, VR ρ (g x) (e x)) →
    ∀ o : Oper, o.op = op → ∃ x, (execOp e o).run E.P w = .ok (.value x) w ∧ VR ρ v x
  opn : ∀ op g v, E.opn op g = some v → ∀ (base : Nat) (ρ : Place) (w : World) (e : Operand → Value), E.Still base w → E.sy.le ρ → (∀ x, VR ρ (g x) (e x)) →
    ∀ o : Oper, o.op = op → ∃ x w', (execOp e o).run E.P w = .ok (.value x) w' ∧ VR ρ v x ∧ w'.heap = w.heap ∧ w'.os = w.os ∧ w'.tape = w.tape ∧ w'.output = w.output
def u8s : List AV → Option (List Int)
  | [] => some []
  | .lit (.int .u8 n) :: r => match u8s r with
    | some l => some (n :: l)
    | none => none
  | _ => none
theorem u8s_ok {ρ : Place} : ∀ (a : List AV) (w : List Value) (l : List Int), VRs ρ a w → u8s a = some l → w = l.map (Value.int .u8)
  | [], w, l, h, e => by
    simp only [u8s, Option.some.injEq] at e
    subst e
    simpa [VRs] using h
  | a :: as, w, l, h, e => by
    simp only [VRs] at h
    obtain ⟨x, xs, rfl, h1, h2⟩ := h
    unfold u8s at e
    split at e
    · rename_i heq; cases heq
    · rename_i n r heq
      simp only [List.cons.injEq] at heq
      obtain ⟨rfl, rfl⟩ := heq
      split at e
      · rename_i q hq
        simp only [Option.some.injEq] at e
        subst e
        simp only [VR] at h1
        rw [h1, u8s_ok _ _ _ h2 hq]
        rfl
      · cases e
    · cases e
def strOf (l : List Int) : ByteArray := l.foldl (fun r n => r.push (UInt8.ofNat n.toNat)) ByteArray.empty
def convertA (E : Env) (M : Mem) (s d : TypeId) (x : AV) : Option AV :=
  match x with
  | .slice b off len _ _ => match E.P.underlying s with
    | some (.slice e) => match E.P.underlying e with
      | some (.int .u8) => match E.P.underlying d with
        | some .string => match readA M b off len with
          | some vs => match u8s vs with
            | some l => some (.lit (.string (strOf l)))
            | none => none
          | none => none
        | _ => none
      | _ => none
    | _ => none
  | .ptr b off => match E.P.underlying s with
    | some (.pointer t) => match E.P.underlying d with
      | some .unsafePointer => match E.P.info? t with
        | some i => match M.bl.get b with
          | some (.cells _ n _ _ _ _) => cond (Nat.blt off n && Nat.blt 0 i.size) (some (.ptr b off)) none
          | _ => none
        | none => none
      | _ => none
    | some .unsafePointer => match E.P.underlying d with
      | some (.pointer u) => match E.P.info? u with
        | some _ => match M.bl.get b with
          | some (.cells elem n _ false _ _) => cond (liesAt E.P E.P.depth elem (n / E.P.cellsOf elem) off u 1) (some (.ptr b off)) none
          | _ => none
        | none => none
      | _ => none
    | _ => none
  | _ => none
theorem convertA_ok {E : Env} {base : Nat} {ρ : Place} {M : Mem} {w : World} (hc : Cons E base ρ M w) {s d : TypeId} {x v : AV} {y : Value} (hx : VR ρ x y) (h : convertA E M s d x = some v) :
    ∃ z, (convert s d y).run E.P w = .ok z w ∧ VR ρ v z := by
  unfold convertA at h
  split at h
  · rename_i b off len cap esz
    split at h
    · rename_i e hs
      split at h
      · rename_i he
        split at h
        · rename_i hd
          split at h
          · rename_i vs hvs
            split at h
            · rename_i l hl
              simp only [Option.some.injEq] at h
              subst h
              simp only [VR] at hx
              obtain ⟨lc, c, hlc, rfl, _⟩ := hx
              obtain ⟨l', xs, k1, k2, k3, k4⟩ := readA_ok hc hvs
              rw [hlc, Option.some.injEq] at k1
              subst k1
              have hxs := u8s_ok _ _ _ k3 hl
              refine ⟨.string (strOf l), ?_, by simp [VR]⟩
              rw [run_convert_bytes_string w s d e _ len c hs he hd]
              refine run_bytesToString w _ len c l ?_
              have := run_loadCells_list (P := E.P) w ⟨lc.blk, lc.off + off, none⟩ xs (fun j u hj => by rw [addr_add]; exact k4 j u hj)
              rw [k2] at this
              rw [this, hxs]
            · cases h
          · cases h
        · cases h
      · cases h
    · cases h
  · rename_i b off
    split at h
    · rename_i t hs
      split at h
      · rename_i hd
        split at h
        · rename_i i hi
          split at h
          · rename_i e n cs row fz back hb
            cases hq : (Nat.blt off n && Nat.blt 0 i.size) with
            | false => rw [hq] at h; simp at h
            | true =>
              rw [hq] at h
              simp only [cond_true, Option.some.injEq] at h
              subst h
              simp only [Bool.and_eq_true, Nat.blt_eq] at hq
              have hx0 := hx
              simp only [VR] at hx
              obtain ⟨l, hl, rfl⟩ := hx
              obtain ⟨l', hl', arr, lo, hi', h1, h0, h2, h3, h4, h5, h6, h7⟩ := hc.blk b _ hb
              rw [hl, Option.some.injEq] at hl'
              subst hl'
              have hsh : w.shape? l.blk = some (e, arr.size) := by simp only [World.shape?, h1]
              exact ⟨_, Lib.run_to_unsafe w _ hs hd hi (by omega) hsh (by simp only []; omega), hx0⟩
          · cases h
        · cases h
      · cases h
    · rename_i hs
      split at h
      · rename_i u hd
        split at h
        · rename_i i hi
          split at h
          · rename_i e n cs fz back hb
            cases hq : liesAt E.P E.P.depth e (n / E.P.cellsOf e) off u 1 with
            | false => rw [hq] at h; simp at h
            | true =>
              rw [hq] at h
              simp only [cond_true, Option.some.injEq] at h
              subst h
              have hx0 := hx
              simp only [VR] at hx
              obtain ⟨l, hl, rfl⟩ := hx
              obtain ⟨l', hl', arr, lo, hi', h1, h0, h2, h3, h4, h5, h6, h7⟩ := hc.blk b _ hb
              rw [hl, Option.some.injEq] at hl'
              subst hl'
              have hsh : w.shape? l.blk = some (e, n) := by simp only [World.shape?, h1, h4 rfl]
              exact ⟨_, Lib.run_from_unsafe w _ hs hd hi hsh (by simp only [h0, Nat.zero_add]; exact hq), hx0⟩
          · cases h
        · cases h
      · cases h
    · cases h
  · cases h
def lits : List AV → Option (List Value)
  | [] => some []
  | a :: as => match a.lit? with
    | some v => match lits as with
      | some vs => some (v :: vs)
      | none => none
    | none => none
theorem lits_ok {ρ : Place} : ∀ (a : List AV) (w l : List Value), VRs ρ a w → lits a = some l → w = l
  | [], w, l, h, e => by simp only [lits, Option.some.injEq] at e; subst e; simpa [VRs] using h
  | a :: as, w, l, h, e => by
    simp only [VRs] at h
    obtain ⟨x, xs, rfl, h1, h2⟩ := h
    simp only [lits] at e
    split at e
    · rename_i v hv
      split at e
      · rename_i vs hvs
        simp only [Option.some.injEq] at e
        subst e
        rw [h1.lit _ _ _ hv, lits_ok _ _ _ h2 hvs]
      · cases e
    · cases e
def extQ (E : Env) (k : Nat) (args : List AV) : Option AV :=
  match k with
  | 0 => match args with
    | [x] => some x
    | _ => none
  | _ => match lits args with
    | some l => match pureRun E.P (extSem E.bt k l.toArray) with
      | some v => some (.lit v)
      | none => none
    | none => none
theorem extQ_ok {E : Env} {ρ : Place} {k : Nat} {args : List AV} {xs : List Value} {v : AV} (hx : VRs ρ args xs) (h : extQ E k args = some v) (w : World) :
    ∃ z, ((do pure (.value (← extSem E.bt k xs.toArray))) : Sem Next).run E.P w = .ok (.value z) w ∧ VR ρ v z := by
  unfold extQ at h
  split at h
  · split at h
    · rename_i x
      simp only [Option.some.injEq] at h
      subst h
      simp only [VRs] at hx
      obtain ⟨y, ys, rfl, h1, rfl⟩ := hx
      exact ⟨y, rfl, h1⟩
    · cases h
  · split at h
    · rename_i l hl
      split at h
      · rename_i y hy
        simp only [Option.some.injEq] at h
        subst h
        rw [lits_ok _ _ _ hx hl]
        exact ⟨y, by simp only [Sem.run_bind, pureRun_run _ _ hy w, Result.andThen_ok, Sem.run_pure], by simp [VR]⟩
      · cases h
    · cases h
def callQ (E : Env) (F : T AV) (c : Call) : Option AV :=
  match c.callee with
  | .builtin .len => match c.argTypes[0]? with
    | some t => match E.P.underlying t with
      | some (.slice _) => match c.args.toList.map (opd F) with
        | [.slice _ _ len _ _] => some (.lit (.int .i64 len))
        | [.eslice] => some (.lit (.int .i64 0))
        | _ => none
      | _ => none
    | none => none
  | .builtin .cap => match c.argTypes[0]? with
    | some t => match E.P.underlying t with
      | some (.slice _) => match c.args.toList.map (opd F) with
        | [.slice _ _ _ (some n) _] => some (.lit (.int .i64 n))
        | _ => none
      | _ => none
    | none => none
  | .builtin .unsafeSliceData => match c.args.toList.map (opd F) with
    | [.slice b off (_ + 1) none _] => some (.ptr b off)
    | [.slice b off _ (some (_ + 1)) _] => some (.ptr b off)
    | _ => none
  | .value (.func f) => match E.ext.get f with
    | some k => extQ E k (c.args.toList.map (opd F))
    | none => none
  | _ => none
theorem exec_builtin {P : Program} {ρ : Operand → Value} {c : Call} {b : Builtin} {o : Oper} (ho : o.op = .call c) (hb : c.callee = .builtin b) (w : World) :
    ∃ consts, (execOp ρ o).run P w = (builtin b c.argTypes o.type consts (c.args.map ρ)).run P w := by
  unfold execOp
  simp only [ho, resolve, hb, Sem.run_bind, Sem.run_pure, Result.andThen_ok, invoke]
  exact ⟨_, rfl⟩
theorem exec_func {P : Program} {ρ : Operand → Value} {c : Call} {f : FuncId} {o : Oper} (ho : o.op = .call c) (hb : c.callee = .value (.func f)) (hρ : ρ (.func f) = .func (.func f) #[] #[]) (w : World) :
    (execOp ρ o).run P w = (callFunc f (c.args.map ρ)).run P w := by
  unfold execOp
  simp only [ho, resolve, hb, hρ, Deferred.ofValue, Sem.run_bind, Sem.run_pure, Result.andThen_ok, invoke]
  simp
theorem callQ_ok {E : Env} (OK : E.OK) {ρ : Place} {F : T AV} {n : Nat} {a : Act} (hf : FR ρ F n a) {o : Oper} {c : Call} (ho : o.op = .call c) {v : AV} (h : callQ E F c = some v) (w : World) :
    ∃ z, (execOp a.eval o).run E.P w = .ok (.value z) w ∧ VR ρ v z := by
  have hargs := hf.evals c.args.toList
  have hmap : (c.args.map a.eval).toList = c.args.toList.map a.eval := by simp
  unfold callQ at h
  split at h
  · rename_i hcal
    obtain ⟨consts, hex⟩ := exec_builtin (ρ := a.eval) (P := E.P) ho hcal w
    rw [hex]
    split at h
    · rename_i t ht
      split at h
      · rename_i e hu
        split at h
        · rename_i b off len cap esz heq
          simp only [Option.some.injEq] at h
          subst h
          rw [heq] at hargs
          simp only [VRs] at hargs
          obtain ⟨y, ys, h1, h2, rfl⟩ := hargs
          simp only [VR] at h2
          obtain ⟨l, c', hl, rfl, _⟩ := h2
          have harr : c.args.map a.eval = #[.slice (some ⟨l.blk, l.off + off, none⟩) len c'] := Array.ext' (by rw [hmap, h1])
          refine ⟨.int .i64 len, ?_, by simp [VR]⟩
          rw [harr]
          simp [builtin, Builtin.len_, ht, run_underlying hu, goInt]
        · rename_i heq
          simp only [Option.some.injEq] at h
          subst h
          rw [heq] at hargs
          simp only [VRs] at hargs
          obtain ⟨y, ys, h1, h2, rfl⟩ := hargs
          simp only [VR] at h2
          obtain ⟨p, c', rfl⟩ := h2
          have harr : c.args.map a.eval = #[.slice (some p) 0 c'] := Array.ext' (by rw [hmap, h1])
          refine ⟨.int .i64 0, ?_, by simp [VR]⟩
          rw [harr]
          simp [builtin, Builtin.len_, ht, run_underlying hu, goInt]
        · cases h
      · cases h
    · cases h
  · rename_i hcal
    obtain ⟨consts, hex⟩ := exec_builtin (ρ := a.eval) (P := E.P) ho hcal w
    rw [hex]
    split at h
    · rename_i t ht
      split at h
      · rename_i e hu
        split at h
        · rename_i b off len cap esz heq
          simp only [Option.some.injEq] at h
          subst h
          rw [heq] at hargs
          simp only [VRs] at hargs
          obtain ⟨y, ys, h1, h2, rfl⟩ := hargs
          simp only [VR] at h2
          obtain ⟨l, c', hl, rfl, rfl⟩ := h2
          have harr : c.args.map a.eval = #[.slice (some ⟨l.blk, l.off + off, none⟩) len c'] := Array.ext' (by rw [hmap, h1])
          refine ⟨.int .i64 c', ?_, by simp [VR]⟩
          rw [harr]
          simp [builtin, Builtin.cap_, ht, run_underlying hu, goInt]
        · cases h
      · cases h
    · cases h
  · rename_i hcal
    obtain ⟨consts, hex⟩ := exec_builtin (ρ := a.eval) (P := E.P) ho hcal w
    rw [hex]
    split at h
    · rename_i b off len esz heq
      simp only [Option.some.injEq] at h
      subst h
      rw [heq] at hargs
      simp only [VRs] at hargs
      obtain ⟨y, ys, h1, h2, rfl⟩ := hargs
      simp only [VR] at h2
      obtain ⟨l, c', hl, rfl, hcap⟩ := h2
      have harr : c.args.map a.eval = #[.slice (some ⟨l.blk, l.off + off, none⟩) (len + 1) c'] := Array.ext' (by rw [hmap, h1])
      refine ⟨.pointer (some ⟨l.blk, l.off + off, none⟩), ?_, by simp only [VR]; exact ⟨l, hl, rfl⟩⟩
      rw [harr]
      simp only [builtin, Sem.run_bind, Lib.run_unsafeSliceData_row w _ _ _ _ _ (show c' ≠ 0 by omega), Result.andThen_ok, Sem.run_pure]
    · rename_i b off len cap esz heq
      simp only [Option.some.injEq] at h
      subst h
      rw [heq] at hargs
      simp only [VRs] at hargs
      obtain ⟨y, ys, h1, h2, rfl⟩ := hargs
      simp only [VR] at h2
      obtain ⟨l, c', hl, rfl, rfl⟩ := h2
      have harr : c.args.map a.eval = #[.slice (some ⟨l.blk, l.off + off, none⟩) len (cap + 1)] := Array.ext' (by rw [hmap, h1])
      refine ⟨.pointer (some ⟨l.blk, l.off + off, none⟩), ?_, by simp only [VR]; exact ⟨l, hl, rfl⟩⟩
      rw [harr]
      simp only [builtin, Sem.run_bind, Lib.run_unsafeSliceData_row w _ _ _ _ _ (show cap + 1 ≠ 0 by omega), Result.andThen_ok, Sem.run_pure]
    · cases h
  · rename_i f hcal
    split at h
    · rename_i k hk
      obtain ⟨z, hz, hv⟩ := extQ_ok hargs h w
      refine ⟨z, ?_, hv⟩
      rw [exec_func ho hcal rfl, OK.ext f k hk]
      have : c.args.map a.eval = (c.args.toList.map a.eval).toArray := Array.ext' (by simp)
      rw [this]
      exact hz
    · cases h
  · cases h
def nilOk : AV → Bool
  | .ptr .. => true
  | .mapp _ => true
  | .iface .. => true
  | .func (.func _) _ _ => true
  | _ => false
def partsA (F : T AV) : List (Nat × Operand) → List (Nat × AV)
  | [] => []
  | (i, x) :: r => (i, opd F x) :: partsA F r
theorem partsA_ok {ρ : Place} {F : T AV} {n : Nat} {a : Act} (hf : FR ρ F n a) : ∀ (l : List (Nat × Operand)),
    (partsA F l).map (·.1) = (l.map fun p => (p.1, a.eval p.2)).map (·.1) ∧ VRs ρ ((partsA F l).map (·.2)) ((l.map fun p => (p.1, a.eval p.2)).map (·.2))
  | [] => by simp [partsA, VRs]
  | (i, x) :: r => by
    obtain ⟨h1, h2⟩ := partsA_ok hf r
    refine ⟨by simp only [partsA, List.map_cons, h1], ?_⟩
    simp only [partsA, List.map_cons, VRs]
    exact ⟨_, _, rfl, hf.eval x, h2⟩
def litOk : Op → Bool
  | .select .. => false
  | .call c => match c.callee with
    | .builtin _ => true
    | _ => false
  | .go _ => false
  | .defer _ => false
  | _ => true
def mapLenQ (E : Env) (M : Mem) (F : T AV) (c : Call) : Option AV :=
  match c.callee with
  | .builtin .len => match c.argTypes[0]? with
    | some t => match c.args.toList with
      | [x] => mapLenA E.P M t (opd F x)
      | _ => none
    | none => none
  | _ => none
theorem mapLenQ_ok {E : Env} {base : Nat} {ρ : Place} {M : Mem} {w : World} (hc : Cons E base ρ M w) {F : T AV} {n : Nat} {a : Act} (hf : FR ρ F n a) {o : Oper} {c : Call} (ho : o.op = .call c) {v : AV}
    (h : mapLenQ E M F c = some v) : ∃ x, (execOp a.eval o).run E.P w = .ok (.value x) w ∧ VR ρ v x := by
  unfold mapLenQ at h
  split at h
  · rename_i hcal
    obtain ⟨consts, hex⟩ := exec_builtin (ρ := a.eval) (P := E.P) ho hcal w
    split at h
    · rename_i t ht
      split at h
      · rename_i x hx
        obtain ⟨z, h1, h2⟩ := mapLenA_ok (u := o.type) hc ht (hf.eval x) h
        have harr : c.args.map a.eval = #[a.eval x] := Array.ext' (by rw [Array.toList_map, hx]; rfl)
        refine ⟨z, ?_, h2⟩
        rw [hex, harr]
        simp only [builtin, Sem.run_bind, h1, Result.andThen_ok, Sem.run_pure]
      · cases h
    · cases h
  · cases h
def quietB (E : Env) (M : Mem) (F : T AV) (o : Oper) : Option AV :=
  match o.op with
  | .pick c x y => match opd F c with
    | .lit (.bool t) => some (cond t (opd F x) (opd F y))
    | _ => none
  | .nilCheck x => cond (nilOk (opd F x)) (some (opd F x)) none
  | .makeInterface t x => match E.P.underlying t with
    | some (.interface _) => none
    | some _ => some (.iface t (opd F x))
    | none => none
  | .makeFunc fn f c => some (.func fn (f.toList.map (opd F)) (c.toList.map (opd F)))
  | .fieldAddr s x f => fieldAddrA E.P s (opd F x) f
  | .field t x f => fieldA E.P t (opd F x) f
  | .indexAddr t x i => indexAddrA E.P t (opd F x) (opd F i)
  | .index t x i => indexA E.P t (opd F x) (opd F i)
  | .slice t x lo hi none => sliceA E.P F t (opd F x) lo hi
  | .extract x i => match opd F x with
    | .tuple vs => vs[i]?
    | _ => none
  | .build t parts => buildA E.P t (partsA F parts.toList)
  | .typeAssert x _ t ok => typeAssertA E.P (opd F x) t ok
  | .binOp .eql t x y _ => match eqA E.P t (opd F x) (opd F y) with
    | some b => some (.lit (.bool b))
    | none => none
  | .binOp .neq t x y _ => match eqA E.P t (opd F x) (opd F y) with
    | some b => some (.lit (.bool !b))
    | none => none
  | .convert s d x => convertA E M s d (opd F x)
  | .lookup t x i ok => lookupA E.P M t (opd F x) (opd F i) ok
  | .call c => match callQ E F c with
    | some v => some v
    | none => mapLenQ E M F c
  | _ => none
def ltI : Int → Int → Bool
  | .ofNat a, .ofNat b => Nat.blt a b
  | .ofNat _, .negSucc _ => false
  | .negSucc _, .ofNat _ => true
  | .negSucc a, .negSucc b => Nat.blt b a
def eqI : Int → Int → Bool
  | .ofNat a, .ofNat b => Nat.beq a b
  | .negSucc a, .negSucc b => Nat.beq a b
  | _, _ => false
theorem ltI_eq (a b : Int) : ltI a b = decide (a < b) := by
  cases a <;> cases b <;> simp only [ltI] <;> rw [Bool.eq_iff_iff] <;> simp only [Nat.blt_eq, decide_eq_true_eq, Bool.false_eq_true, false_iff, true_iff, Int.ofNat_eq_natCast] <;> omega
theorem eqI_eq (a b : Int) : eqI a b = (a == b) := by
  cases a <;> cases b <;> simp only [eqI] <;> rw [Bool.eq_iff_iff] <;> simp only [Nat.beq_eq, beq_iff_eq, Bool.false_eq_true, false_iff, Int.ofNat_eq_natCast] <;> omega
def cmpI : BinOp → Int → Int → Option Bool
  | .lss, a, b => some (ltI a b)
  | .leq, a, b => some (!ltI b a)
  | .gtr, a, b => some (ltI b a)
  | .geq, a, b => some (!ltI a b)
  | .eql, a, b => some (eqI a b)
  | .neq, a, b => some (!eqI a b)
  | _, _, _ => none
theorem cmpI_run {P : Program} {op : BinOp} {t : TypeId} {x y : Operand} {k : IntKind} {a b : Int} {c : Bool} (h : cmpI op a b = some c) (w : World) :
    ((do eqGuard op t x y (.int k a) (.int k b); binOp op t (.int k a) (.int k b)) : Sem Value).run P w = .ok (.bool c) w := by
  cases op <;> simp only [cmpI, Option.some.injEq, reduceCtorEq] at h <;> subst h <;>
    simp [eqGuard, binOp, Op.intCmp, Sem.run_pure, ltI_eq, eqI_eq]
  all_goals (rw [Bool.eq_iff_iff]; simp)
def cmpA (F : T AV) : Op → Option AV
  | .binOp op _ x y _ => match opd F x, opd F y with
    | .lit (.int k a), .lit (.int k' b) => match decide (k = k') with
      | true => match cmpI op a b with
        | some c => some (.lit (.bool c))
        | none => none
      | false => none
    | _, _ => none
  | _ => none
theorem cmpA_ok {P : Program} {ρ : Place} {F : T AV} {n : Nat} {a : Act} (hf : FR ρ F n a) {o : Oper} {v : AV} (h : cmpA F o.op = some v) (w : World) :
    ∃ x, (execOp a.eval o).run P w = .ok (.value x) w ∧ VR ρ v x := by
  unfold cmpA at h
  split at h
  · rename_i op t x y _ ho
    have hx := hf.eval x
    have hy := hf.eval y
    split at h
    · rename_i k p k' q ex ey
      rw [ex] at hx
      rw [ey] at hy
      simp only [VR] at hx hy
      split at h
      · rename_i hk
        have hk := of_decide_eq_true hk
        subst hk
        split at h
        · rename_i c hc
          simp only [Option.some.injEq] at h
          subst h
          refine ⟨.bool c, ?_, by simp [VR]⟩
          unfold execOp
          simp only [ho, hx, hy]
          rw [Sem.run_bind, cmpI_run hc]
          rfl
        · cases h
      · cases h
    · cases h
  · cases h
def quiet0 (E : Env) (M : Mem) (F : T AV) (o : Oper) : Option AV :=
  match o.op with
  | .move x => some (opd F x)
  | .assign x => some (opd F x)
  | .load t p => loadA E M t (opd F p)
  | op => match cmpA F op with
    | some v => some v
    | none => match litOk op with
      | true => match litOp E.P F o with
        | some v => some v
        | none => quietB E M F o
      | false => quietB E M F o
theorem quietB_ok {E : Env} (OK : E.OK) {base : Nat} {ρ : Place} {M : Mem} {w : World} (hc : Cons E base ρ M w) {F : T AV} {n : Nat} {a : Act} (hf : FR ρ F n a) {o : Oper} {v : AV}
    (h : quietB E M F o = some v) : ∃ x, (execOp a.eval o).run E.P w = .ok (.value x) w ∧ VR ρ v x := by
  unfold quietB at h
  split at h
  · rename_i c x y ho
    have hv := hf.eval c
    split at h
    · rename_i t ht
      rw [ht] at hv
      simp only [VR] at hv
      simp only [Option.some.injEq] at h
      subst h
      cases t with
      | true => exact ⟨a.eval x, by unfold execOp; simp [ho, hv, asBool], by simpa using hf.eval x⟩
      | false => exact ⟨a.eval y, by unfold execOp; simp [ho, hv, asBool], by simpa using hf.eval y⟩
    · cases h
  · rename_i x ho
    have hv := hf.eval x
    revert h hv
    generalize opd F x = q
    intro h hv
    cases hq : nilOk q with
    | false => rw [hq] at h; simp at h
    | true =>
      rw [hq] at h
      simp only [cond_true, Option.some.injEq] at h
      subst h
      refine ⟨a.eval x, ?_, hv⟩
      unfold execOp
      simp only [ho]
      unfold nilOk at hq
      split at hq
      · simp only [VR] at hv; obtain ⟨l, _, e⟩ := hv; rw [e]; rfl
      · simp only [VR] at hv; obtain ⟨l, _, e⟩ := hv; rw [e]; rfl
      · simp only [VR] at hv; obtain ⟨l, e, _⟩ := hv; rw [e]; rfl
      · simp only [VR] at hv; obtain ⟨f', c', e, _⟩ := hv; rw [e]; rfl
      · cases hq
  · rename_i t x ho
    split at h
    · cases h
    · rename_i d hd hne
      simp only [Option.some.injEq] at h
      subst h
      refine ⟨.iface t (a.eval x), ?_, by simp only [VR]; exact ⟨_, rfl, hf.eval x⟩⟩
      unfold execOp
      simp only [ho, Instr.makeInterface, Sem.run_bind, run_underlying hne, Result.andThen_ok]
      cases d <;> first | (exact absurd rfl (hd _)) | rfl
    · cases h
  · rename_i fn f c ho
    simp only [Option.some.injEq] at h
    subst h
    refine ⟨.func fn (f.map a.eval) (c.map a.eval), by unfold execOp; simp [ho, Instr.makeFunc], ?_⟩
    simp only [VR]
    exact ⟨_, _, rfl, by simpa using hf.evals f.toList, by simpa using hf.evals c.toList⟩
  · rename_i s x f ho
    obtain ⟨y, hy, hv⟩ := fieldAddrA_ok (hf.eval x) h w
    exact ⟨y, by unfold execOp; simp [ho, hy], hv⟩
  · rename_i t x f ho
    obtain ⟨y, hy, hv⟩ := fieldA_ok (hf.eval x) h w
    exact ⟨y, by unfold execOp; simp [ho, hy], hv⟩
  · rename_i t x i ho
    obtain ⟨y, hy, hv⟩ := indexAddrA_ok (hf.eval x) (hf.eval i) h w
    exact ⟨y, by unfold execOp; simp [ho, hy], hv⟩
  · rename_i t x i ho
    obtain ⟨y, hy, hv⟩ := indexA_ok (hf.eval x) (hf.eval i) h w
    exact ⟨y, by unfold execOp; simp [ho, hy], hv⟩
  · rename_i t x lo hi ho
    obtain ⟨y, hy, hv⟩ := sliceA_ok hf (hf.eval x) h w
    exact ⟨y, by unfold execOp; simp [ho, hy], hv⟩
  · rename_i x i ho
    have hv := hf.eval x
    split at h
    · rename_i vs hvs
      rw [hvs] at hv
      simp only [VR] at hv
      obtain ⟨arr, e, hr⟩ := hv
      obtain ⟨y, hy, hvy⟩ := hr.get i v h
      have hy' : arr[i]? = some y := by simpa using hy
      exact ⟨y, by unfold execOp; simp [ho, e, Instr.extract, hy'], hvy⟩
    · cases h
  · rename_i t parts ho
    obtain ⟨p1, p2⟩ := partsA_ok hf parts.toList
    obtain ⟨y, hy, hv⟩ := buildA_ok (vals := parts.map fun (i, x) => (i, a.eval x)) (by simpa using p1) (by simpa using p2) h w
    exact ⟨y, by unfold execOp; simp [ho, hy], hv⟩
  · rename_i x xt t ok ho
    obtain ⟨y, hy, hv⟩ := typeAssertA_ok (xt := xt) (hf.eval x) h w
    exact ⟨y, by unfold execOp; simp [ho, hy], hv⟩
  · rename_i t x y _ ho
    split at h
    · rename_i b hb
      simp only [Option.some.injEq] at h
      subst h
      have := (eqA_ok (p := x) (q := y) (hf.eval x) (hf.eval y) hb w).1
      refine ⟨.bool b, ?_, by simp [VR]⟩
      unfold execOp
      simp only [ho]
      rw [Sem.run_bind, this]
      rfl
    · cases h
  · rename_i t x y _ ho
    split at h
    · rename_i b hb
      simp only [Option.some.injEq] at h
      subst h
      have := (eqA_ok (p := x) (q := y) (hf.eval x) (hf.eval y) hb w).2
      refine ⟨.bool !b, ?_, by simp [VR]⟩
      unfold execOp
      simp only [ho]
      rw [Sem.run_bind, this]
      rfl
    · cases h
  · rename_i s d x ho
    obtain ⟨y, hy, hv⟩ := convertA_ok hc (hf.eval x) h
    exact ⟨y, by unfold execOp; simp [ho, hy], hv⟩
  · rename_i t x i ok ho
    obtain ⟨y, hy, hv⟩ := lookupA_ok hc (hf.eval x) (hf.eval i) h
    exact ⟨y, by unfold execOp; simp [ho, hy], hv⟩
  · rename_i c ho
    split at h
    · rename_i u hu
      simp only [Option.some.injEq] at h
      subst h
      exact callQ_ok OK hf ho hu w
    · exact mapLenQ_ok hc hf ho h
  · cases h
theorem quiet0_ok {E : Env} (OK : E.OK) {base : Nat} {ρ : Place} {M : Mem} {w : World} (hc : Cons E base ρ M w) {F : T AV} {n : Nat} {a : Act} (hf : FR ρ F n a) {o : Oper} {v : AV}
    (h : quiet0 E M F o = some v) : ∃ x, (execOp a.eval o).run E.P w = .ok (.value x) w ∧ VR ρ v x := by
  unfold quiet0 at h
  split at h
  · rename_i x ho
    simp only [Option.some.injEq] at h
    subst h
    exact ⟨a.eval x, by unfold execOp; simp [ho], hf.eval x⟩
  · rename_i x ho
    simp only [Option.some.injEq] at h
    subst h
    exact ⟨a.eval x, by unfold execOp; simp [ho], hf.eval x⟩
  · rename_i t p ho
    obtain ⟨y, hy, hv⟩ := loadA_ok hc (hf.eval p) h
    exact ⟨y, by unfold execOp; simp [ho, hy], hv⟩
  · split at h
    · rename_i u hu
      simp only [Option.some.injEq] at h
      subst h
      exact cmpA_ok hf hu w
    · split at h
      · split at h
        · rename_i u hu
          simp only [Option.some.injEq] at h
          subst h
          exact litOp_ok hf hu w
        · exact quietB_ok OK hc hf h
      · exact quietB_ok OK hc hf h
def exOf : AV → Option (Exp × Bool)
  | .ex e => some (e, true)
  | .lit (.int k n) => some (.lit (.int k n), false)
  | .lit (.bool b) => some (.lit (.bool b), false)
  | .lit (.string s) => some (.lit (.string s), false)
  | .lit (.float k n) => some (.lit (.float k n), false)
  | _ => none
theorem exOf_ok {ρ : Place} {a : AV} {v : Value} {e : Exp} {p : Bool} (hv : VR ρ a v) (h : exOf a = some (e, p)) : e.ev ρ = some v := by
  unfold exOf at h
  split at h <;> simp only [Option.some.injEq, Prod.mk.injEq, reduceCtorEq] at h
  · obtain ⟨rfl, rfl⟩ := h
    simp only [VR] at hv
    exact hv.1
  all_goals
    obtain ⟨rfl, rfl⟩ := h
    simp only [VR] at hv
    rw [hv]
    rfl
def tyFits : TypeDesc → Ty → Bool
  | .int _, .int _ => true
  | .string, .str => true
  | .bool, .bool => true
  | _, _ => false
def eqCell (E : Env) (t : TypeId) (x y : AV) : Option Bool :=
  match E.P.underlying t with
  | some u => match exOf x, exOf y with
    | some (a, p), some (b, q) => match tyOf E.tys a with
      | some ty => match tyFits u ty with
        | true => match (p || q) with
          | true => match a.same b with
            | true => some true
            | false => match resolveE E.tys E.facts (.bin .eql a b) with
              | some (.lit (.bool r)) => some r
              | _ => none
          | false => match Exp.ev (fun _ => none) (.bin .eql a b) with
            | some (.bool r) => some r
            | _ => none
        | false => none
      | none => none
    | _, _ => none
  | none => none
theorem evEq_run {P : Program} {d : Nat} {t : TypeId} {u : TypeDesc} (hu : P.underlying t = some u) {x y : Value} {ty : Ty} (hf : tyFits u ty = true) (hx : hasTy x ty = true) {r : Bool} (h : evBin .eql x y = some (.bool r)) (w : World) :
    (Op.equalIn (d + 1) t x y).run P w = .ok r w := by
  cases ty with
  | int k =>
    obtain ⟨n, rfl⟩ := hasTy_int hx
    cases u <;> simp [tyFits] at hf
    cases y <;> simp only [evBin, reduceCtorEq] at h
    rename_i k0 k' m
    obtain ⟨rfl, hc⟩ := evBin_int (o := .eql) (t := r) h
    simp only [cmpInt, Option.some.injEq] at hc
    rw [run_equalIn_int w d t k k0 n m hu]
    rw [← hc]
    congr 1
  | bool =>
    obtain ⟨n, rfl⟩ := hasTy_bool hx
    cases u <;> simp [tyFits] at hf
    cases y <;> simp only [evBin, reduceCtorEq, Option.some.injEq, Value.bool.injEq] at h
    rw [run_equalIn_bool' w d t _ _ hu, h]
  | str =>
    obtain ⟨n, rfl⟩ := hasTy_str hx
    cases u <;> simp [tyFits] at hf
    cases y <;> simp only [evBin, reduceCtorEq] at h
    rw [run_equalIn_string w d t _ _ hu]
    simp only [Go.binOp, Op.stringOp, pure, pure0, Option.some.injEq, Value.bool.injEq] at h
    rw [h]
  | flt k => cases u <;> simp [tyFits] at hf
theorem ev_none {σ : Place} {e : Exp} {v : Value} (h : e.ev (fun _ => none) = some v) : e.ev σ = some v := Exp.ev_mono (fun _ _ h => by cases h) h
theorem eqCell_ok {E : Env} (OK : E.OK) {ρ : Place} (hle : E.sy.le ρ) {t : TypeId} {x y : AV} {v z : Value} (hx : VR ρ x v) (hy : VR ρ y z) {r : Bool} (h : eqCell E t x y = some r) (d : Nat) (w : World) :
    (Op.equalIn (d + 1) t v z).run E.P w = .ok r w := by
  unfold eqCell at h
  split at h
  · rename_i u hu
    split at h
    · rename_i a p b q h1 h2
      have ex := exOf_ok hx h1
      have ey := exOf_ok hy h2
      split at h
      · rename_i ty hty
        obtain ⟨v', ev', hv'⟩ := tyOf_ok OK.ty a ty hty
        have hvv := Exp.ev_mono hle ev'
        rw [ex, Option.some.injEq] at hvv
        subst hvv
        split at h
        · rename_i hfit
          refine evEq_run hu hfit hv' ?_ w
          split at h
          · split at h
            · rename_i hs
              simp only [Option.some.injEq] at h
              subst h
              have := Exp.same_ok hs
              subst this
              rw [ex, Option.some.injEq] at ey
              subst ey
              cases ty with
              | int k => obtain ⟨n, rfl⟩ := hasTy_int hv'; simp [evBin, Go.binOp, Op.intCmp, pure, pure0]
              | bool => obtain ⟨n, rfl⟩ := hasTy_bool hv'; simp [evBin]
              | str => obtain ⟨n, rfl⟩ := hasTy_str hv'; simp [evBin, Go.binOp, Op.stringOp, pure, pure0]
              | flt k => cases u <;> simp [tyFits] at hfit
            · split at h
              · rename_i r' hr
                simp only [Option.some.injEq] at h
                subst h
                obtain ⟨k, k1, k2⟩ := resolveE_ok hle OK.ty OK.fact hr
                simp only [Exp.ev, ex, ey] at k1
                simp only [VR] at k2
                rw [k1, k2]
              · cases h
          · split at h
            · rename_i r' hr
              simp only [Option.some.injEq] at h
              subst h
              have := ev_none (σ := ρ) hr
              simp only [Exp.ev, ex, ey] at this
              exact this
            · cases h
        · cases h
      · cases h
    · cases h
  · cases h
def eqFieldsA (E : Env) (xs ys : List AV) : List Field → Option Bool
  | [] => some true
  | f :: fs => match decide (f.name = "_") with
    | true => eqFieldsA E xs ys fs
    | false => match partA E.P f.type xs f.offset, partA E.P f.type ys f.offset with
      | some a, some b => match eqCell E f.type a b with
        | some true => eqFieldsA E xs ys fs
        | some false => some false
        | none => none
      | _, _ => none
theorem eqFieldsA_ok {E : Env} (OK : E.OK) {ρ : Place} (hle : E.sy.le ρ) {xs ys : List AV} {vs zs : Array Value} (hx : VRs ρ xs vs.toList) (hy : VRs ρ ys zs.toList) (d : Nat) (w : World) : ∀ (fs : List Field) {r : Bool}, eqFieldsA E xs ys fs = some r →
    (Op.eqFields (d + 1) vs zs fs).run E.P w = .ok r w
  | [], r, h => by
    simp only [eqFieldsA, Option.some.injEq] at h
    subst h
    rfl
  | f :: fs, r, h => by
    simp only [eqFieldsA] at h
    split at h
    · rename_i hn
      have hn := of_decide_eq_true hn
      simp only [Op.eqFields, hn, ne_eq, not_true_eq_false, if_false]
      exact eqFieldsA_ok OK hle hx hy d w fs h
    · rename_i hn
      have hn := of_decide_eq_false hn
      split at h
      · rename_i a b ha hb
        obtain ⟨p, hp, hpv⟩ := partA_ok hx ha w
        obtain ⟨q, hq, hqv⟩ := partA_ok hy hb w
        have fin : ∀ r, eqCell E f.type a b = some r → (Op.equalIn (d + 1) f.type p q).run E.P w = .ok r w := fun r hr => eqCell_ok OK hle hpv hqv hr d w
        simp only [Op.eqFields, ne_eq, hn, not_false_eq_true, if_true, Sem.run_bind, hp, hq, Result.andThen_ok]
        split at h
        · rename_i hc
          rw [fin _ hc]
          simpa using eqFieldsA_ok OK hle hx hy d w fs h
        · rename_i hc
          rw [fin _ hc]
          simp only [Option.some.injEq] at h
          subst h
          simp
        · cases h
      · cases h
def eqAggA (E : Env) (t : TypeId) (xs ys : List AV) : Option Bool :=
  match E.P.underlying t with
  | some (.struct fs) => match E.P.stoodInHeld t, E.P.eqGuardType E.P.depth t with
    | false, false => eqFieldsA E xs ys fs.toList
    | _, _ => none
  | _ => none
theorem eqAggA_ok {E : Env} (OK : E.OK) {ρ : Place} (hle : E.sy.le ρ) {t : TypeId} {xs ys : List AV} {v z : Value} (hx : VR ρ (.agg xs) v) (hy : VR ρ (.agg ys) z) {r : Bool} (h : eqAggA E t xs ys = some r) (op : BinOp) (X Y : Operand) (w : World) :
    (op = .eql → (do eqGuard op t X Y v z; Go.binOp op t v z : Sem Value).run E.P w = .ok (.bool r) w) ∧ (op = .neq → (do eqGuard op t X Y v z; Go.binOp op t v z : Sem Value).run E.P w = .ok (.bool !r) w) := by
  unfold eqAggA at h
  split at h
  · rename_i fs hu
    split at h
    · rename_i h1 h2
      simp only [VR] at hx hy
      obtain ⟨vs, rfl, hxs⟩ := hx
      obtain ⟨zs, rfl, hys⟩ := hy
      have hfo : E.P.fieldsOf t = fs := by unfold Program.fieldsOf; rw [hu]
      have hu' : E.P.underlying t = some (.struct (E.P.fieldsOf t)) := by rw [hfo]; exact hu
      have hE : (Op.equalIn 10000 t (.agg vs) (.agg zs)).run E.P w = .ok r w := by
        rw [run_equalIn_struct w 9999 t vs zs hu' h1, hfo]
        exact eqFieldsA_ok OK hle hxs hys 9998 w fs.toList h
      refine ⟨fun e => ?_, fun e => ?_⟩
      · subst e
        rw [Sem.run_bind, run_eqGuard_agg w _ t X Y vs zs h2, Result.andThen_ok, run_eql_struct w t vs zs, hE]
        rfl
      · subst e
        rw [Sem.run_bind, run_eqGuard_agg w _ t X Y vs zs h2, Result.andThen_ok, run_neq_struct w t vs zs, hE]
        rfl
    · cases h
  · cases h
def eqAggX (E : Env) (F : T AV) (o : Op) : Option AV :=
  match o with
  | .binOp op t x y _ => match opd F x, opd F y with
    | .agg xs, .agg ys => match op with
      | .eql => match eqAggA E t xs ys with
        | some r => some (.lit (.bool r))
        | none => none
      | .neq => match eqAggA E t xs ys with
        | some r => some (.lit (.bool !r))
        | none => none
      | _ => none
    | _, _ => none
  | _ => none
theorem eqAggX_ok {E : Env} (OK : E.OK) {base : Nat} {ρ : Place} {M : Mem} {w : World} (hc : Cons E base ρ M w) {F : T AV} {n : Nat} {a : Act} (hf : FR ρ F n a) {o : Oper} {v : AV} (h : eqAggX E F o.op = some v) :
    ∃ x, (execOp a.eval o).run E.P w = .ok (.value x) w ∧ VR ρ v x := by
  unfold eqAggX at h
  split at h
  · rename_i op t x y _ ho
    have hx := hf.eval x
    have hy := hf.eval y
    split at h
    · rename_i xs ys ex ey
      rw [ex] at hx
      rw [ey] at hy
      split at h
      · split at h
        · rename_i r hr
          simp only [Option.some.injEq] at h
          subst h
          refine ⟨.bool r, ?_, by simp [VR]⟩
          unfold execOp
          simp only [ho]
          rw [Sem.run_bind, (eqAggA_ok OK hc.sym hx hy hr .eql x y w).1 rfl]
          rfl
        · cases h
      · split at h
        · rename_i r hr
          simp only [Option.some.injEq] at h
          subst h
          refine ⟨.bool !r, ?_, by simp [VR]⟩
          unfold execOp
          simp only [ho]
          rw [Sem.run_bind, (eqAggA_ok OK hc.sym hx hy hr .neq x y w).2 rfl]
          rfl
        · cases h
      · cases h
    · cases h
  · cases h
def exA (E : Env) (F : T AV) (o : Op) : Option AV :=
  match o with
  | .binOp op t x y _ => match exOf (opd F x), exOf (opd F y) with
    | some (a, p), some (b, q) => match (p || q) with
      | true => match tyOf E.tys a with
        | some .bool => match E.P.underlying t with
          | some .bool => resolveE E.tys E.facts (.bin op a b)
          | _ => none
        | _ => resolveE E.tys E.facts (.bin op a b)
      | false => none
    | _, _ => none
  | .unOp .not _ x => match exOf (opd F x) with
    | some (a, true) => resolveE E.tys E.facts (.not a)
    | _ => none
  | .call c => match c.callee with
    | .builtin .len => match c.argTypes[0]? with
      | some t => match E.P.underlying t with
        | some .string => match c.args.toList.map (opd F) with
          | [x] => match exOf x with
            | some (a, true) => resolveE E.tys E.facts (.len a)
            | _ => none
          | _ => none
        | _ => none
      | none => none
    | _ => none
  | _ => none
theorem evBin_exec {P : Program} {o : BinOp} {t : TypeId} {X Y : Operand} {x y v : Value} (h : evBin o x y = some v) (hb : ∀ a, x = .bool a → P.underlying t = some .bool) (w : World) :
    (do eqGuard o t X Y x y; Go.binOp o t x y : Sem Value).run P w = .ok v w := by
  unfold evBin at h
  split at h
  · rename_i k a k' b
    have hg : eqGuard o t X Y (.int k a) (.int k' b) = pure () := by unfold eqGuard; cases o <;> rfl
    have e : Go.binOp o t (.int k a) (.int k' b) = Go.binOp o 0 (.int k a) (.int k' b) := by cases o <;> rfl
    rw [hg, e]
    simp [pure0_run _ _ h w]
  · rename_i k a k' b
    have hg : eqGuard o t X Y (.float k a) (.float k' b) = pure () := by unfold eqGuard; cases o <;> rfl
    have e : Go.binOp o t (.float k a) (.float k' b) = Go.binOp o 0 (.float k a) (.float k' b) := by cases o <;> rfl
    rw [hg, e]
    simp [pure0_run _ _ h w]
  · rename_i a b
    have hg : eqGuard o t X Y (.string a) (.string b) = pure () := by unfold eqGuard; cases o <;> rfl
    have e : Go.binOp o t (.string a) (.string b) = Go.binOp o 0 (.string a) (.string b) := by cases o <;> rfl
    rw [hg, e]
    simp [pure0_run _ _ h w]
  · rename_i a b
    have hg : eqGuard o t X Y (.bool a) (.bool b) = pure () := by unfold eqGuard; cases o <;> rfl
    have hu := hb a rfl
    have he : (Op.equal t (.bool a) (.bool b)).run P w = .ok (a == b) w := by
      show (Op.equalIn (9999 + 1) t (.bool a) (.bool b)).run P w = _
      rw [Op.equalIn, Sem.run_bind, run_underlying hu]
      rfl
    rw [hg]
    split at h
    · simp only [Option.some.injEq] at h
      subst h
      show ((Op.equal t (.bool a) (.bool b) >>= fun r => pure (Value.bool r) : Sem Value)).run P w = _
      rw [Sem.run_bind, he]
      rfl
    · simp only [Option.some.injEq] at h
      subst h
      show ((Op.equal t (.bool a) (.bool b) >>= fun r => pure (Value.bool !r) : Sem Value)).run P w = _
      rw [Sem.run_bind, he]
      rfl
    · cases h
  · cases h
theorem exA_ok {E : Env} (OK : E.OK) {base : Nat} {ρ : Place} {M : Mem} {w : World} (hc : Cons E base ρ M w) {F : T AV} {n : Nat} {a : Act} (hf : FR ρ F n a) {o : Oper} {v : AV} (h : exA E F o.op = some v) :
    ∃ x, (execOp a.eval o).run E.P w = .ok (.value x) w ∧ VR ρ v x := by
  have res : ∀ {e : Exp} {v : AV}, resolveE E.tys E.facts e = some v → ∃ x, e.ev ρ = some x ∧ VR ρ v x := fun h => resolveE_ok hc.sym OK.ty OK.fact h
  unfold exA at h
  split at h
  · rename_i op t x y _ ho
    split at h
    · rename_i e1 p e2 q h1 h2
      have hx := exOf_ok (hf.eval x) h1
      have hy := exOf_ok (hf.eval y) h2
      split at h
      · have fin : ∀ {v : AV}, resolveE E.tys E.facts (.bin op e1 e2) = some v → (∀ b, a.eval x = .bool b → E.P.underlying t = some .bool) → ∃ x, (execOp a.eval o).run E.P w = .ok (.value x) w ∧ VR ρ v x := by
          intro v hv hb
          obtain ⟨z, k1, k2⟩ := res hv
          simp only [Exp.ev, hx, hy] at k1
          refine ⟨z, ?_, k2⟩
          unfold execOp
          simp only [ho]
          rw [Sem.run_bind, evBin_exec k1 hb w]
          rfl
        split at h
        · split at h
          · rename_i hu
            exact fin h fun _ _ => hu
          · cases h
        · rename_i hnb
          refine fin h fun b hb => ?_
          exfalso
          unfold resolveE at h
          rw [hb] at hx
          -- the first one is no truth
          have hty : ∀ t, tyOf E.tys e1 = some t → t = .bool := by
            intro t ht
            obtain ⟨v', ev', hv'⟩ := tyOf_ok OK.ty e1 t ht
            have := Exp.ev_mono hc.sym ev'
            rw [hx, Option.some.injEq] at this
            subst this
            cases t <;> simp [hasTy] at hv'
            rfl
          cases hq : tyOf E.tys e1 with
          | none =>
            have : tyOf E.tys (.bin op e1 e2) = none := by simp [tyOf, hq]
            rw [this] at h
            cases h
          | some t' =>
            have := hty t' hq
            subst this
            exact hnb hq
      · cases h
    · cases h
  · rename_i t x ho
    split at h
    · rename_i e1 h1
      have hx := exOf_ok (hf.eval x) h1
      obtain ⟨z, k1, k2⟩ := res h
      simp only [Exp.ev, hx] at k1
      split at k1
      · rename_i b hb
        simp only [Option.some.injEq] at hb k1
        subst k1
        refine ⟨_, ?_, k2⟩
        unfold execOp
        simp [ho, hb, Op.unary]
      · cases k1
    · cases h
  · rename_i c ho
    split at h
    · rename_i hcal
      split at h
      · rename_i t ht
        split at h
        · rename_i hu
          split at h
          · rename_i x hargs
            split at h
            · rename_i e1 h1
              have hv := hf.evals c.args.toList
              rw [hargs] at hv
              simp only [VRs] at hv
              obtain ⟨y, ys, g1, g2, rfl⟩ := hv
              have hx := exOf_ok g2 h1
              obtain ⟨z, k1, k2⟩ := res h
              simp only [Exp.ev, hx] at k1
              split at k1
              · rename_i s hs
                simp only [Option.some.injEq] at hs k1
                subst hs k1
                have harr : c.args.map a.eval = #[.string s] := Array.ext' (by simpa using g1)
                obtain ⟨consts, hex⟩ := exec_builtin (ρ := a.eval) (P := E.P) ho hcal w
                refine ⟨_, ?_, k2⟩
                rw [hex, harr]
                simp [builtin, Builtin.len_, ht, run_underlying hu, goInt]
              · cases k1
            · cases h
          · cases h
        · cases h
      · cases h
    · cases h
  · cases h
def quiet1 (E : Env) (M : Mem) (F : T AV) (o : Oper) : Option AV :=
  match quiet0 E M F o with
  | some v => some v
  | none => match exA E F o.op with
    | some v => some v
    | none => match eqAggX E F o.op with
      | some v => some v
      | none => E.opc o.op (opd F)
theorem quiet1_ok {E : Env} (OK : E.OK) {base : Nat} {ρ : Place} {M : Mem} {w : World} (hc : Cons E base ρ M w) {F : T AV} {n : Nat} {a : Act} (hf : FR ρ F n a) {o : Oper} {v : AV}
    (h : quiet1 E M F o = some v) : ∃ x, (execOp a.eval o).run E.P w = .ok (.value x) w ∧ VR ρ v x := by
  unfold quiet1 at h
  split at h
  · rename_i u hu
    simp only [Option.some.injEq] at h
    subst h
    exact quiet0_ok OK hc hf hu
  · split at h
    · rename_i u hu
      simp only [Option.some.injEq] at h
      subst h
      exact exA_ok OK hc hf hu
    · split at h
      · rename_i u hu
        simp only [Option.some.injEq] at h
        subst h
        exact eqAggX_ok OK hc hf hu
      · exact OK.opc _ _ _ h base ρ w a.eval hc.glob hc.sym hf.eval o rfl
def normA (E : Env) : AV → AV
  | .ex e => match tyOf E.tys e with
    | some .bool => match decideE E.facts e with
      | some b => .lit (.bool b)
      | none => .ex e
    | _ => .ex e
  | v => v
theorem normA_ok {E : Env} (OK : E.OK) {ρ : Place} (hle : E.sy.le ρ) {v : AV} {x : Value} (h : VR ρ v x) : VR ρ (normA E v) x := by
  unfold normA
  split
  · rename_i e
    split
    · rename_i hty
      split
      · rename_i b hb
        have h1 := Exp.ev_mono hle (decideE_ok OK.ty OK.fact hty hb)
        simp only [VR] at h ⊢
        rw [h.1, Option.some.injEq] at h1
        exact h1
      · exact h
    · exact h
  · exact h
def quiet (E : Env) (M : Mem) (F : T AV) (o : Oper) : Option AV :=
  match quiet1 E M F o with
  | some v => some (normA E v)
  | none => none
theorem quiet_ok {E : Env} (OK : E.OK) {base : Nat} {ρ : Place} {M : Mem} {w : World} (hc : Cons E base ρ M w) {F : T AV} {n : Nat} {a : Act} (hf : FR ρ F n a) {o : Oper} {v : AV}
    (h : quiet E M F o = some v) : ∃ x, (execOp a.eval o).run E.P w = .ok (.value x) w ∧ VR ρ v x := by
  unfold quiet at h
  split at h
  · rename_i u hu
    simp only [Option.some.injEq] at h
    subst h
    obtain ⟨x, h1, h2⟩ := quiet1_ok OK hc hf hu
    exact ⟨x, h1, normA_ok OK hc.sym h2⟩
  · cases h
theorem ER.filter {ρ : Place} (p : Nat → Bool) : ∀ {es : List (AV × AV × Nat)} {a : List MapEntry}, ER ρ es a → ER ρ (es.filter fun e => p e.2.2) (a.filter fun e => p e.born)
  | [], _, h => by simp only [ER] at h; subst h; simp [ER]
  | (k, v, n) :: r, _, h => by
    simp only [ER] at h
    obtain ⟨x, xs, rfl, h1, h2, h3, h4⟩ := h
    have := ER.filter p h4
    simp only [List.filter_cons, h3]
    cases hp : p n with
    | false => simpa using this
    | true =>
      simp only [if_true]
      exact ⟨x, _, rfl, h1, h2, h3, this⟩
theorem ER.all {ρ : Place} (p : Nat → Bool) : ∀ {es : List (AV × AV × Nat)} {a : List MapEntry}, ER ρ es a → (a.all fun e => p e.born) = es.all fun e => p e.2.2
  | [], _, h => by simp only [ER] at h; subst h; rfl
  | (k, v, n) :: r, _, h => by
    simp only [ER] at h
    obtain ⟨x, xs, rfl, h1, h2, h3, h4⟩ := h
    simp only [List.all_cons, h3, ER.all p h4]
def rangeMapA (P : Program) (M : Mem) (t : TypeId) (x : AV) : Option (AV × Mem) :=
  match P.underlying t with
  | some (.map _ _) => match x with
    | .lit (.map none) => some (.ptr M.next 0, ⟨M.next + 1, M.bl.set M.next (.miter none 0 [] 0)⟩)
    | .mapp b => match M.bl.get b with
      | some (.map _ cl) => some (.ptr M.next 0, ⟨M.next + 1, M.bl.set M.next (.miter (some b) cl [] cl)⟩)
      | _ => none
    | _ => none
  | _ => none
theorem rangeMapA_ok {E : Env} {base : Nat} {ρ : Place} {M M' : Mem} {w : World} (hc : Cons E base ρ M w) (hbase : base ≤ w.heap.size) {t : TypeId} {x v : AV} {y : Value} (hx : VR ρ x y)
    (h : rangeMapA E.P M t x = some (v, M')) : ∃ z w' ρ', (Instr.range t y).run E.P w = .ok z w' ∧ VR ρ' v z ∧ Step E base ρ w M ρ' w' M' := by
  have hnone : ρ M.next = none := by
    cases hq : ρ M.next with
    | none => rfl
    | some l => have := hc.bound _ _ hq; omega
  have fin : ∀ (m mb : Option Nat) (cl : Nat), MR ρ m mb →
      Step E base ρ w M (ρ.upd M.next ⟨w.heap.size, 0, 0, undef⟩) (w.alloc (.mapIter mb cl #[] cl)) ⟨M.next + 1, M.bl.set M.next (.miter m cl [] cl)⟩ := fun m mb cl hm =>
    Step.push hc hbase hnone (Nat.le_succ _) (Nat.lt_succ_self _) (Nat.le_refl _) rfl (alloc_old w _).1 (alloc_old w _).2 ⟨rfl, mb, hm.mono (Place.le_upd hnone), alloc_new w _⟩ rfl rfl rfl
  have hv : VR (ρ.upd M.next ⟨w.heap.size, 0, 0, undef⟩) (.ptr M.next 0) (.pointer (some ⟨w.heap.size, 0, none⟩)) := by
    simp only [VR]
    exact ⟨_, Place.upd_same _ _ _, rfl⟩
  unfold rangeMapA at h
  split at h
  · rename_i kt et hu
    split at h
    · simp only [Option.some.injEq, Prod.mk.injEq] at h
      obtain ⟨rfl, rfl⟩ := h
      simp only [VR] at hx
      subst hx
      exact ⟨_, _, _, by simp [Instr.range, run_underlying hu], hv, fin none none 0 rfl⟩
    · rename_i b
      split at h
      · rename_i es cl hb
        simp only [Option.some.injEq, Prod.mk.injEq] at h
        obtain ⟨rfl, rfl⟩ := h
        simp only [VR] at hx
        obtain ⟨l, hl, rfl⟩ := hx
        obtain ⟨l', hl', h0, ents, a1, a2⟩ := hc.blk b _ hb
        rw [hl, Option.some.injEq] at hl'
        subst hl'
        have hget : (getObj l.blk).run E.P w = .ok (.map ents cl) w := by simp [getObj, Sem.run, a1]
        exact ⟨_, _, _, by simp [Instr.range, run_underlying hu, hget], hv, fin (some b) (some l.blk) cl ⟨l, hl, rfl⟩⟩
      · cases h
    · cases h
  · cases h
def nextMapA (M : Mem) (p : AV) : Option (AV × Mem) :=
  match p with
  | .ptr b 0 => match M.bl.get b with
    | some (.miter none _ _ _) => some (.tuple [.lit (.bool false)], M)
    | some (.miter (some mb) since seen last) => match M.bl.get mb with
      | some (.map es cl) => match (!seen.isEmpty && !es.isEmpty && es.all fun e => decide (e.2.2 ≥ last)) with
        | true => none
        | false => match (es.filter fun e => !seen.contains e.2.2).filter fun e => decide (e.2.2 < since), (es.filter fun e => !seen.contains e.2.2).filter fun e => decide (e.2.2 ≥ since) with
          | [], [] => some (.tuple [.lit (.bool false)], M)
          | [(k, v, n)], [] => some (.tuple [.lit (.bool true), k, v], ⟨M.next, M.bl.set b (.miter (some mb) since (seen ++ [n]) cl)⟩)
          | _, _ => none
      | _ => none
    | _ => none
  | _ => none
theorem nextMapA_ok {E : Env} {base : Nat} {ρ : Place} {M M' : Mem} {w : World} (hc : Cons E base ρ M w) {p v : AV} {y : Value} {t : TypeId} (hp : VR ρ p y)
    (h : nextMapA M p = some (v, M')) : ∃ x w', (Instr.next y false t).run E.P w = .ok x w' ∧ VR ρ v x ∧ Step E base ρ w M ρ w' M' := by
  have over : VR ρ (.tuple [.lit (.bool false)]) (.tuple #[.bool false]) := by
    simp only [VR, VRs]
    exact ⟨_, rfl, _, _, rfl, rfl, rfl⟩
  unfold nextMapA at h
  split at h
  · rename_i b
    simp only [VR] at hp
    obtain ⟨l, hl, rfl⟩ := hp
    split at h
    · rename_i since seen last hb
      simp only [Option.some.injEq, Prod.mk.injEq] at h
      obtain ⟨rfl, rfl⟩ := h
      obtain ⟨l', hl', a0, q, a1, a2⟩ := hc.blk b _ hb
      rw [hl, Option.some.injEq] at hl'
      subst hl'
      simp only [MR] at a1
      subst a1
      have hget : (getObj l.blk).run E.P w = .ok (.mapIter none since seen.toArray last) w := by simp [getObj, Sem.run, a2]
      exact ⟨.tuple #[.bool false], w, by rw [a0]; simp [Instr.next, hget], over, Step.refl hc⟩
    · rename_i mb since seen last hb
      split at h
      · rename_i es cl hm
        obtain ⟨l', hl', a0, q, a1, a2⟩ := hc.blk b _ hb
        rw [hl, Option.some.injEq] at hl'
        subst hl'
        obtain ⟨lm, hlm, rfl⟩ := a1
        obtain ⟨l', hl', b0, ents, b1, b2⟩ := hc.blk mb _ hm
        rw [hlm, Option.some.injEq] at hl'
        subst hl'
        have hget : (getObj l.blk).run E.P w = .ok (.mapIter (some lm.blk) since seen.toArray last) w := by simp [getObj, Sem.run, a2]
        have hgetm : (getObj lm.blk).run E.P w = .ok (.map ents cl) w := by simp [getObj, Sem.run, b1]
        split at h
        · cases h
        · rename_i hchk
          have hsz : ents.isEmpty = es.isEmpty := by
            have := b2.length
            cases he : es with
            | nil => rw [he] at this; simpa using this
            | cons x r =>
              rw [he] at this
              have k : ents.size = r.length + 1 := by simpa using this
              simp [Array.isEmpty, k]
          have hchk' : (!seen.toArray.isEmpty && !ents.isEmpty && ents.all fun e => decide (e.born ≥ last)) = false := by
            have h1 : (ents.all fun e => decide (e.born ≥ last)) = es.all fun e => decide (e.2.2 ≥ last) := by
              rw [← Array.all_toList]
              exact ER.all (fun n => decide (n ≥ last)) b2
            rw [h1, hsz]
            have h2 : seen.toArray.isEmpty = seen.isEmpty := by simp
            rw [h2]
            exact hchk
          have hleft := ER.filter (fun n => !seen.contains n) b2
          have hold := ER.filter (fun n => decide (n < since)) hleft
          have hnew := ER.filter (fun n => decide (n ≥ since)) hleft
          have eo : ((ents.filter fun e => !seen.toArray.contains e.born).filter fun e => decide (e.born < since)) = ((ents.toList.filter fun e => !seen.contains e.born).filter fun e => decide (e.born < since)).toArray := by
            apply Array.ext'
            simp
          have en : ((ents.filter fun e => !seen.toArray.contains e.born).filter fun e => decide (e.born ≥ since)) = ((ents.toList.filter fun e => !seen.contains e.born).filter fun e => decide (e.born ≥ since)).toArray := by
            apply Array.ext'
            simp
          split at h
          · rename_i ho hn
            simp only [Option.some.injEq, Prod.mk.injEq] at h
            obtain ⟨rfl, rfl⟩ := h
            rw [ho] at hold
            rw [hn] at hnew
            simp only [ER] at hold hnew
            rw [hold] at eo
            rw [hnew] at en
            refine ⟨.tuple #[.bool false], w, ?_, over, Step.refl hc⟩
            rw [a0]
            simp only [Instr.next, Sem.run_bind, hget, Result.andThen_ok, hgetm, hchk', eo, en]
            simp [Question.forced]
          · rename_i k u n ho hn
            simp only [Option.some.injEq, Prod.mk.injEq] at h
            obtain ⟨rfl, rfl⟩ := h
            rw [ho] at hold
            rw [hn] at hnew
            simp only [ER] at hold hnew
            obtain ⟨e, es', h1, h2, h3, h4, rfl⟩ := hold
            rw [h1] at eo
            rw [hnew] at en
            have hset : (setObj l.blk (.mapIter (some lm.blk) since (seen ++ [e.born]).toArray cl)).run E.P w = .ok () { w with heap := w.heap.setIfInBounds l.blk (.mapIter (some lm.blk) since (seen ++ [e.born]).toArray cl) } := by
              simp [setObj, Sem.run, a2]
            refine ⟨.tuple #[.bool true, e.key, e.val], { w with heap := w.heap.setIfInBounds l.blk (.mapIter (some lm.blk) since (seen ++ [e.born]).toArray cl) }, ?_, ?_, ?_⟩
            · rw [a0]
              simp only [Instr.next, Sem.run_bind, hget, Result.andThen_ok, hgetm, hchk', eo, en]
              simp [Question.forced, hset]
            · simp only [VR, VRs]
              exact ⟨_, rfl, _, _, rfl, rfl, _, _, rfl, h2, _, _, rfl, h3, rfl⟩
            · refine Step.over hc hb hl (by simp) (fun i hi => by simp only []; rw [Array.getElem?_setIfInBounds_ne (fun e => hi e.symm)]) ?_ rfl rfl rfl
              refine ⟨a0, some lm.blk, ⟨lm, hlm, rfl⟩, ?_⟩
              rw [h4]
              exact setObj_at a2
          · cases h
      · cases h
    · cases h
  · cases h
def lastOf : List Nat → Option Nat
  | [] => none
  | [x] => some x
  | _ :: y :: r => lastOf (y :: r)
theorem lastOf_eq : ∀ (l : List Nat), lastOf l = l.getLast?
  | [] => rfl
  | [x] => rfl
  | _ :: y :: r => by
    rw [lastOf, lastOf_eq (y :: r)]
    simp [List.getLast?_cons_cons]
theorem ER.find {ρ : Place} (p : Nat → Bool) : ∀ {es : List (AV × AV × Nat)} {a : List MapEntry} {k v : AV} {n : Nat}, ER ρ es a → es.find? (fun e => p e.2.2) = some (k, v, n) →
    ∃ e, a.find? (fun e => p e.born) = some e ∧ VR ρ k e.key ∧ VR ρ v e.val
  | [], _, _, _, _, _, h => by simp at h
  | (k', v', n') :: r, _, k, v, n, he, h => by
    simp only [ER] at he
    obtain ⟨x, xs, rfl, h1, h2, h3, h4⟩ := he
    rw [List.find?_cons] at h
    rw [List.find?_cons, h3]
    cases hp : p n' with
    | true =>
      simp only [hp, Option.some.injEq, Prod.mk.injEq] at h
      obtain ⟨rfl, rfl, rfl⟩ := h
      exact ⟨x, rfl, h1, h2⟩
    | false =>
      simp only [hp] at h
      exact ER.find p h4 h
def entryA (M : Mem) (p : AV) : Option AV :=
  match p with
  | .ptr b 0 => match M.bl.get b with
    | some (.miter (some mb) _ seen last) => match lastOf seen with
      | some stamp => match M.bl.get mb with
        | some (.map es cl) => match Nat.beq cl last with
          | true => match es.find? fun e => e.2.2 == stamp with
            | some (k, v, _) => some (.tuple [k, v])
            | none => none
          | false => none
        | _ => none
      | none => none
    | _ => none
  | _ => none
theorem entryA_ok {E : Env} {base : Nat} {ρ : Place} {M : Mem} {w : World} (hc : Cons E base ρ M w) {p v : AV} {y : Value} (hp : VR ρ p y)
    (h : entryA M p = some v) : ∃ x, (Instr.entry y).run E.P w = .ok x w ∧ VR ρ v x := by
  unfold entryA at h
  split at h
  · rename_i b
    simp only [VR] at hp
    obtain ⟨l, hl, rfl⟩ := hp
    split at h
    · rename_i mb since seen last hb
      split at h
      · rename_i stamp hst
        split at h
        · rename_i es cl hm
          split at h
          · rename_i hcl
            split at h
            · rename_i k u n hf
              simp only [Option.some.injEq] at h
              subst h
              obtain rfl : cl = last := Nat.eq_of_beq_eq_true hcl
              obtain ⟨l', hl', a0, q, a1, a2⟩ := hc.blk b _ hb
              rw [hl, Option.some.injEq] at hl'
              subst hl'
              obtain ⟨lm, hlm, rfl⟩ := a1
              obtain ⟨l', hl', b0, ents, b1, b2⟩ := hc.blk mb _ hm
              rw [hlm, Option.some.injEq] at hl'
              subst hl'
              obtain ⟨e, g1, g2, g3⟩ := ER.find (fun n => n == stamp) b2 hf
              have hget : (getObj l.blk).run E.P w = .ok (.mapIter (some lm.blk) since seen.toArray cl) w := by simp [getObj, Sem.run, a2]
              have hgetm : (getObj lm.blk).run E.P w = .ok (.map ents cl) w := by simp [getObj, Sem.run, b1]
              have hback : seen.toArray.back? = some stamp := by rw [← hst, lastOf_eq]; simp
              have hfind : ents.find? (fun e => e.born == stamp) = some e := by rw [← Array.find?_toList]; exact g1
              refine ⟨.tuple #[e.key, e.val], ?_, ?_⟩
              · rw [a0]
                simp [Instr.entry, hget, hgetm, hback, hfind]
              · simp only [VR, VRs]
                exact ⟨_, rfl, _, _, rfl, g2, _, _, rfl, g3, rfl⟩
            · cases h
          · cases h
        · cases h
      · cases h
    · cases h
  · cases h
end Go.Proofs.YtkeibmkcgnppeaaGreatDoor.Rx

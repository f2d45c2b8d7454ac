/- A reflective evaluator of the model's code, part U: going over a map, as far as there is one way to go. -/
import Derived.Test.YtiamenedboifeabGreatDoorRxH
import Derived.Test.YtiamenedboifeabGreatDoorRxE
namespace Go.Proofs.YtiamenedboifeabGreatDoor.Rx

theorem ER.filter {ρ : Place} (p : Nat → Bool) : ∀ {es : List (AV × AV × Nat)} {a : List MapEntry}, ER ρ es a → ER ρ (es.filter fun e => p e.2.2) (a.filter fun e => p e.born)
  | [], _, h => by simp only [ER] at h; subst h; simp [ER]
  | (k, v, n) :: r, _, h => by
    simp only [ER] at h
    obtain ⟨x, xs, rfl, h1, h2, h3, h4⟩ := h
    have := ER.filter p h4
    simp only [List.filter_cons, h3]
    cases hp : p n with
    | false => simpa using this
    | true =>
      simp only [if_true]
      exact ⟨x, _, rfl, h1, h2, h3, this⟩

theorem ER.all {ρ : Place} (p : Nat → Bool) : ∀ {es : List (AV × AV × Nat)} {a : List MapEntry}, ER ρ es a → (a.all fun e => p e.born) = es.all fun e => p e.2.2
  | [], _, h => by simp only [ER] at h; subst h; rfl
  | (k, v, n) :: r, _, h => by
    simp only [ER] at h
    obtain ⟨x, xs, rfl, h1, h2, h3, h4⟩ := h
    simp only [List.all_cons, h3, ER.all p h4]

def rangeMapA (P : Program) (M : Mem) (t : TypeId) (x : AV) : Option (AV × Mem) :=
  match P.underlying t with
  | some (.map _ _) => match x with
    | .lit (.map none) => some (.ptr M.next 0, ⟨M.next + 1, M.bl.set M.next (.miter none 0 [] 0)⟩)
    | .mapp b => match M.bl.get b with
      | some (.map _ cl) => some (.ptr M.next 0, ⟨M.next + 1, M.bl.set M.next (.miter (some b) cl [] cl)⟩)
      | _ => none
    | _ => none
  | _ => none

theorem rangeMapA_ok {E : Env} {base : Nat} {ρ : Place} {M M' : Mem} {w : World} (hc : Cons E base ρ M w) (hbase : base ≤ w.heap.size) {t : TypeId} {x v : AV} {y : Value} (hx : VR ρ x y)
    (h : rangeMapA E.P M t x = some (v, M')) : ∃ z w' ρ', (Instr.range t y).run E.P w = .ok z w' ∧ VR ρ' v z ∧ Step E base ρ w M ρ' w' M' := by
  have hnone : ρ M.next = none := by
    cases hq : ρ M.next with
    | none => rfl
    | some l => have := hc.bound _ _ hq; omega
  have fin : ∀ (m mb : Option Nat) (cl : Nat), MR ρ m mb →
      Step E base ρ w M (ρ.upd M.next ⟨w.heap.size, 0, 0, undef⟩) (w.alloc (.mapIter mb cl #[] cl)) ⟨M.next + 1, M.bl.set M.next (.miter m cl [] cl)⟩ := fun m mb cl hm =>
    Step.push hc hbase hnone (Nat.le_succ _) (Nat.lt_succ_self _) (Nat.le_refl _) rfl (alloc_old w _).1 (alloc_old w _).2 ⟨rfl, mb, hm.mono (Place.le_upd hnone), alloc_new w _⟩ rfl rfl rfl
  have hv : VR (ρ.upd M.next ⟨w.heap.size, 0, 0, undef⟩) (.ptr M.next 0) (.pointer (some ⟨w.heap.size, 0, none⟩)) := by
    simp only [VR]
    exact ⟨_, Place.upd_same _ _ _, rfl⟩
  unfold rangeMapA at h
  split at h
  · rename_i kt et hu
    split at h
    · simp only [Option.some.injEq, Prod.mk.injEq] at h
      obtain ⟨rfl, rfl⟩ := h
      simp only [VR] at hx
      subst hx
      exact ⟨_, _, _, by simp [Instr.range, run_underlying hu], hv, fin none none 0 rfl⟩
    · rename_i b
      split at h
      · rename_i es cl hb
        simp only [Option.some.injEq, Prod.mk.injEq] at h
        obtain ⟨rfl, rfl⟩ := h
        simp only [VR] at hx
        obtain ⟨l, hl, rfl⟩ := hx
        obtain ⟨l', hl', h0, ents, a1, a2⟩ := hc.blk b _ hb
        rw [hl, Option.some.injEq] at hl'
        subst hl'
        have hget : (getObj l.blk).run E.P w = .ok (.map ents cl) w := by simp [getObj, Sem.run, a1]
        exact ⟨_, _, _, by simp [Instr.range, run_underlying hu, hget], hv, fin (some b) (some l.blk) cl ⟨l, hl, rfl⟩⟩
      · cases h
    · cases h
  · cases h

def nextMapA (M : Mem) (p : AV) : Option (AV × Mem) :=
  match p with
  | .ptr b 0 => match M.bl.get b with
    | some (.miter none _ _ _) => some (.tuple [.lit (.bool false)], M)
    | some (.miter (some mb) since seen last) => match M.bl.get mb with
      | some (.map es cl) => match (!seen.isEmpty && !es.isEmpty && es.all fun e => decide (e.2.2 ≥ last)) with
        | true => none
        | false => match (es.filter fun e => !seen.contains e.2.2).filter fun e => decide (e.2.2 < since), (es.filter fun e => !seen.contains e.2.2).filter fun e => decide (e.2.2 ≥ since) with
          | [], [] => some (.tuple [.lit (.bool false)], M)
          | [(k, v, n)], [] => some (.tuple [.lit (.bool true), k, v], ⟨M.next, M.bl.set b (.miter (some mb) since (seen ++ [n]) cl)⟩)
          | _, _ => none
      | _ => none
    | _ => none
  | _ => none

theorem nextMapA_ok {E : Env} {base : Nat} {ρ : Place} {M M' : Mem} {w : World} (hc : Cons E base ρ M w) {p v : AV} {y : Value} {t : TypeId} (hp : VR ρ p y)
    (h : nextMapA M p = some (v, M')) : ∃ x w', (Instr.next y false t).run E.P w = .ok x w' ∧ VR ρ v x ∧ Step E base ρ w M ρ w' M' := by
  have over : VR ρ (.tuple [.lit (.bool false)]) (.tuple #[.bool false]) := by
    simp only [VR, VRs]
    exact ⟨_, rfl, _, _, rfl, rfl, rfl⟩
  unfold nextMapA at h
  split at h
  · rename_i b
    simp only [VR] at hp
    obtain ⟨l, hl, rfl⟩ := hp
    split at h
    · rename_i since seen last hb
      simp only [Option.some.injEq, Prod.mk.injEq] at h
      obtain ⟨rfl, rfl⟩ := h
      obtain ⟨l', hl', a0, q, a1, a2⟩ := hc.blk b _ hb
      rw [hl, Option.some.injEq] at hl'
      subst hl'
      simp only [MR] at a1
      subst a1
      have hget : (getObj l.blk).run E.P w = .ok (.mapIter none since seen.toArray last) w := by simp [getObj, Sem.run, a2]
      exact ⟨.tuple #[.bool false], w, by rw [a0]; simp [Instr.next, hget], over, Step.refl hc⟩
    · rename_i mb since seen last hb
      split at h
      · rename_i es cl hm
        obtain ⟨l', hl', a0, q, a1, a2⟩ := hc.blk b _ hb
        rw [hl, Option.some.injEq] at hl'
        subst hl'
        obtain ⟨lm, hlm, rfl⟩ := a1
        obtain ⟨l', hl', b0, ents, b1, b2⟩ := hc.blk mb _ hm
        rw [hlm, Option.some.injEq] at hl'
        subst hl'
        have hget : (getObj l.blk).run E.P w = .ok (.mapIter (some lm.blk) since seen.toArray last) w := by simp [getObj, Sem.run, a2]
        have hgetm : (getObj lm.blk).run E.P w = .ok (.map ents cl) w := by simp [getObj, Sem.run, b1]
        split at h
        · cases h
        · rename_i hchk
          have hsz : ents.isEmpty = es.isEmpty := by
            have := b2.length
            cases he : es with
            | nil => rw [he] at this; simpa using this
            | cons x r =>
              rw [he] at this
              have k : ents.size = r.length + 1 := by simpa using this
              simp [Array.isEmpty, k]
          have hchk' : (!seen.toArray.isEmpty && !ents.isEmpty && ents.all fun e => decide (e.born ≥ last)) = false := by
            have h1 : (ents.all fun e => decide (e.born ≥ last)) = es.all fun e => decide (e.2.2 ≥ last) := by
              rw [← Array.all_toList]
              exact ER.all (fun n => decide (n ≥ last)) b2
            rw [h1, hsz]
            have h2 : seen.toArray.isEmpty = seen.isEmpty := by simp
            rw [h2]
            exact hchk
          have hleft := ER.filter (fun n => !seen.contains n) b2
          have hold := ER.filter (fun n => decide (n < since)) hleft
          have hnew := ER.filter (fun n => decide (n ≥ since)) hleft
          have eo : ((ents.filter fun e => !seen.toArray.contains e.born).filter fun e => decide (e.born < since)) = ((ents.toList.filter fun e => !seen.contains e.born).filter fun e => decide (e.born < since)).toArray := by
            apply Array.ext'
            simp
          have en : ((ents.filter fun e => !seen.toArray.contains e.born).filter fun e => decide (e.born ≥ since)) = ((ents.toList.filter fun e => !seen.contains e.born).filter fun e => decide (e.born ≥ since)).toArray := by
            apply Array.ext'
            simp
          split at h
          · rename_i ho hn
            simp only [Option.some.injEq, Prod.mk.injEq] at h
            obtain ⟨rfl, rfl⟩ := h
            rw [ho] at hold
            rw [hn] at hnew
            simp only [ER] at hold hnew
            rw [hold] at eo
            rw [hnew] at en
            refine ⟨.tuple #[.bool false], w, ?_, over, Step.refl hc⟩
            rw [a0]
            simp only [Instr.next, Sem.run_bind, hget, Result.andThen_ok, hgetm, hchk', eo, en]
            simp [Question.forced]
          · rename_i k u n ho hn
            simp only [Option.some.injEq, Prod.mk.injEq] at h
            obtain ⟨rfl, rfl⟩ := h
            rw [ho] at hold
            rw [hn] at hnew
            simp only [ER] at hold hnew
            obtain ⟨e, es', h1, h2, h3, h4, rfl⟩ := hold
            rw [h1] at eo
            rw [hnew] at en
            have hset : (setObj l.blk (.mapIter (some lm.blk) since (seen ++ [e.born]).toArray cl)).run E.P w = .ok () { w with heap := w.heap.setIfInBounds l.blk (.mapIter (some lm.blk) since (seen ++ [e.born]).toArray cl) } := by
              simp [setObj, Sem.run, a2]
            refine ⟨.tuple #[.bool true, e.key, e.val], { w with heap := w.heap.setIfInBounds l.blk (.mapIter (some lm.blk) since (seen ++ [e.born]).toArray cl) }, ?_, ?_, ?_⟩
            · rw [a0]
              simp only [Instr.next, Sem.run_bind, hget, Result.andThen_ok, hgetm, hchk', eo, en]
              simp [Question.forced, hset]
            · simp only [VR, VRs]
              exact ⟨_, rfl, _, _, rfl, rfl, _, _, rfl, h2, _, _, rfl, h3, rfl⟩
            · refine Step.over hc hb hl (by simp) (fun i hi => by simp only []; rw [Array.getElem?_setIfInBounds_ne (fun e => hi e.symm)]) ?_ rfl rfl rfl
              refine ⟨a0, some lm.blk, ⟨lm, hlm, rfl⟩, ?_⟩
              rw [h4]
              exact setObj_at a2
          · cases h
      · cases h
    · cases h
  · cases h

/-! The entry that an iterator stands at. -/

def lastOf : List Nat → Option Nat
  | [] => none
  | [x] => some x
  | _ :: y :: r => lastOf (y :: r)

theorem lastOf_eq : ∀ (l : List Nat), lastOf l = l.getLast?
  | [] => rfl
  | [x] => rfl
  | _ :: y :: r => by
    rw [lastOf, lastOf_eq (y :: r)]
    simp [List.getLast?_cons_cons]

theorem ER.find {ρ : Place} (p : Nat → Bool) : ∀ {es : List (AV × AV × Nat)} {a : List MapEntry} {k v : AV} {n : Nat}, ER ρ es a → es.find? (fun e => p e.2.2) = some (k, v, n) →
    ∃ e, a.find? (fun e => p e.born) = some e ∧ VR ρ k e.key ∧ VR ρ v e.val
  | [], _, _, _, _, _, h => by simp at h
  | (k', v', n') :: r, _, k, v, n, he, h => by
    simp only [ER] at he
    obtain ⟨x, xs, rfl, h1, h2, h3, h4⟩ := he
    rw [List.find?_cons] at h
    rw [List.find?_cons, h3]
    cases hp : p n' with
    | true =>
      simp only [hp, Option.some.injEq, Prod.mk.injEq] at h
      obtain ⟨rfl, rfl, rfl⟩ := h
      exact ⟨x, rfl, h1, h2⟩
    | false =>
      simp only [hp] at h
      exact ER.find p h4 h

def entryA (M : Mem) (p : AV) : Option AV :=
  match p with
  | .ptr b 0 => match M.bl.get b with
    | some (.miter (some mb) _ seen last) => match lastOf seen with
      | some stamp => match M.bl.get mb with
        | some (.map es cl) => match Nat.beq cl last with
          | true => match es.find? fun e => e.2.2 == stamp with
            | some (k, v, _) => some (.tuple [k, v])
            | none => none
          | false => none
        | _ => none
      | none => none
    | _ => none
  | _ => none

theorem entryA_ok {E : Env} {base : Nat} {ρ : Place} {M : Mem} {w : World} (hc : Cons E base ρ M w) {p v : AV} {y : Value} (hp : VR ρ p y)
    (h : entryA M p = some v) : ∃ x, (Instr.entry y).run E.P w = .ok x w ∧ VR ρ v x := by
  unfold entryA at h
  split at h
  · rename_i b
    simp only [VR] at hp
    obtain ⟨l, hl, rfl⟩ := hp
    split at h
    · rename_i mb since seen last hb
      split at h
      · rename_i stamp hst
        split at h
        · rename_i es cl hm
          split at h
          · rename_i hcl
            split at h
            · rename_i k u n hf
              simp only [Option.some.injEq] at h
              subst h
              obtain rfl : cl = last := Nat.eq_of_beq_eq_true hcl
              obtain ⟨l', hl', a0, q, a1, a2⟩ := hc.blk b _ hb
              rw [hl, Option.some.injEq] at hl'
              subst hl'
              obtain ⟨lm, hlm, rfl⟩ := a1
              obtain ⟨l', hl', b0, ents, b1, b2⟩ := hc.blk mb _ hm
              rw [hlm, Option.some.injEq] at hl'
              subst hl'
              obtain ⟨e, g1, g2, g3⟩ := ER.find (fun n => n == stamp) b2 hf
              have hget : (getObj l.blk).run E.P w = .ok (.mapIter (some lm.blk) since seen.toArray cl) w := by simp [getObj, Sem.run, a2]
              have hgetm : (getObj lm.blk).run E.P w = .ok (.map ents cl) w := by simp [getObj, Sem.run, b1]
              have hback : seen.toArray.back? = some stamp := by rw [← hst, lastOf_eq]; simp
              have hfind : ents.find? (fun e => e.born == stamp) = some e := by rw [← Array.find?_toList]; exact g1
              refine ⟨.tuple #[e.key, e.val], ?_, ?_⟩
              · rw [a0]
                simp [Instr.entry, hget, hgetm, hback, hfind]
              · simp only [VR, VRs]
                exact ⟨_, rfl, _, _, rfl, g2, _, _, rfl, g3, rfl⟩
            · cases h
          · cases h
        · cases h
      · cases h
    · cases h
  · cases h

end Go.Proofs.YtiamenedboifeabGreatDoor.Rx

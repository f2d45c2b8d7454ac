/- A reflective evaluator of the model's code, part O: the open region, put together. -/
import Derived.Test.YtiamenedboifeabGreatDoorRxN
namespace Go.Proofs.YtiamenedboifeabGreatDoor.Rx

def unkAll (F : T AV) : List Oper → T AV
  | [] => F
  | o :: r => match o.dst with
    | some d => (unkAll F r).set d .unk
    | none => unkAll F r

theorem unkAll_get (F : T AV) : ∀ (l : List Oper) (t : Tmp), (unkAll F l).get t = some .unk ∨ ((∀ o ∈ l, o.dst ≠ some t) ∧ (unkAll F l).get t = F.get t)
  | [], t => .inr ⟨by simp, rfl⟩
  | o :: r, t => by
    simp only [unkAll]
    split
    · rename_i d hd
      rw [T.get_set]
      by_cases e : t = d
      · rw [if_pos e]; exact .inl rfl
      · rw [if_neg e]
        rcases unkAll_get F r t with h | ⟨h1, h2⟩
        · exact .inl h
        · refine .inr ⟨fun o' ho' => ?_, h2⟩
          rcases List.mem_cons.1 ho' with rfl | ho'
          · rw [hd]; simp only [ne_eq, Option.some.injEq]; exact fun k => e k.symm
          · exact h1 o' ho'
    · rename_i hd
      rcases unkAll_get F r t with h | ⟨h1, h2⟩
      · exact .inl h
      · refine .inr ⟨fun o' ho' => ?_, h2⟩
        rcases List.mem_cons.1 ho' with rfl | ho'
        · rw [hd]; simp
        · exact h1 o' ho'

def drawA (E : Env) (callF : CallF) (n : Nat) (ops : Array Oper) (s : St) : Option (AExit × St) :=
  match staticOk ops (bitsOf ops) with
  | false => none
  | true => match goD ⟨E, callF, n, ops, bitsOf ops, s.M.next⟩ ops.toList ⟨0, s.F, ⟨s.M.next + ops.size, s.M.bl⟩, [], [], .leaf⟩ with
    | none => none
    | some (g, fin) => match (match g.louds with
        | [] => true
        | _ :: _ => checkGo ⟨E, callF, n, ops, bitsOf ops, s.M.next⟩ g.louds (stagesOf ⟨s.M.next + ops.size, s.M.bl⟩ g.louds) g.recs ops.toList 0) with
      | false => none
      | true => match fin with
        | .norm F M => some (.normal, { s with F := F, M := M })
        | .pan ch _ M => some (.panic ch, { s with F := unkAll s.F ops.toList, M := M })

/-- How many are not listed yet. -/
def left (listed : Array Bool) : Nat → Nat
  | 0 => 0
  | n + 1 => left listed n + (if listed.getD n false = true then 0 else 1)

theorem left_zero {listed : Array Bool} : ∀ {n : Nat}, left listed n = 0 → ∀ j, j < n → listed.getD j false = true
  | 0, _, j, hj => by omega
  | n + 1, h, j, hj => by
    simp only [left] at h
    by_cases e : j = n
    · subst e
      by_cases k : listed.getD j false = true
      · exact k
      · rw [if_neg k] at h; omega
    · exact left_zero (n := n) (by omega) j (by omega)

theorem getD_set {listed : Array Bool} {i j : Nat} (hi : i < listed.size) : (listed.setIfInBounds i true).getD j false = true ↔ listed.getD j false = true ∨ j = i := by
  by_cases e : j = i
  · subst e
    simp [Array.getD_eq_getD_getElem?, hi]
  · have : (listed.setIfInBounds i true).getD j false = listed.getD j false := by
      simp only [Array.getD_eq_getD_getElem?]
      rw [Array.getElem?_setIfInBounds_ne (fun k => e k.symm)]
    rw [this]
    simp [e]

theorem left_set {listed : Array Bool} {i : Nat} (hi : i < listed.size) (hn : ¬ listed.getD i false = true) : ∀ (n : Nat), left (listed.setIfInBounds i true) n + (if i < n then 1 else 0) = left listed n
  | 0 => by simp [left]
  | n + 1 => by
    have ih := left_set hi hn n
    simp only [left]
    by_cases e : n = i
    · subst e
      have h1 : (listed.setIfInBounds n true).getD n false = true := (getD_set hi).2 (.inr rfl)
      rw [if_pos h1, if_neg hn]
      simp only [Nat.lt_irrefl, if_false] at ih
      rw [if_pos (by omega)]
      omega
    · have h1 : (listed.setIfInBounds i true).getD n false = true ↔ listed.getD n false = true := by
        rw [getD_set hi]
        simp [e]
      simp only [h1]
      by_cases hin : i < n
      · have hi1 : i < n + 1 := by omega
        rw [if_pos hin] at ih
        rw [if_pos hi1]
        omega
      · have hi1 : ¬ i < n + 1 := by omega
        rw [if_neg hin] at ih
        rw [if_neg hi1]
        omega

theorem left_new : ∀ (n m : Nat), n ≤ m → left (Array.replicate m false) n = n
  | 0, _, _ => rfl
  | n + 1, m, h => by
    simp only [left]
    rw [left_new n m (by omega)]
    have : (Array.replicate m false).getD n false = false := by
      rw [Array.getD_eq_getD_getElem?, Array.getElem?_replicate]
      split <;> rfl
    rw [this]
    rfl

def Listed (listed : Array Bool) (j : Nat) : Prop := listed.getD j false = true

/-- Where nothing may run any more all have run. -/
theorem all_listed {ops : Array Oper} {bt : T Nat} (hS : Static ops bt) {listed : Array Bool} (hsz : listed.size = ops.size) (h : Region.ready .any ops listed = []) : ∀ j, j < ops.size → Listed listed j := by
  intro j
  induction j using Nat.strongRecOn with
  | _ j ih =>
    intro hj
    refine Classical.byContradiction fun hn => ?_
    have : j ∈ Region.ready .any ops listed := by
      rw [mem_ready]
      refine ⟨?_, ops[j], by simp [hj], fun e he hb => ?_⟩
      · unfold Listed at hn
        rw [Array.getD_eq_getD_getElem?, Array.getElem?_eq_getElem (by omega)] at hn ⊢
        simpa using hn
      · have hq : e.on ∈ preds ops[j] := by
          unfold preds
          refine List.mem_map.2 ⟨e, List.mem_filter.2 ⟨by simpa using he, hb⟩, rfl⟩
        have hlt := hS.preds j ops[j] e.on (by simp [hj]) hq
        exact ih e.on hlt (by omega)
    rw [h] at this
    simp at this

theorem LInv.congr {p : Par} {base : Nat} {ρ0 : Place} {w0 : World} {Ms M0 : Mem} {F0 : T AV} {D0 : List AD} {recs : T Rec} {L L' : Nat → Prop} {ρ : Place} {st : Option Nat} {a : Act} {w : World}
    (h : LInv p base ρ0 w0 Ms M0 F0 D0 recs L ρ st a w) (e : ∀ j, L j ↔ L' j) : LInv p base ρ0 w0 Ms M0 F0 D0 recs L' ρ st a w := by
  have : L = L' := funext fun j => propext (e j)
  subst this
  exact h

/-- What the end of a region is told. -/
theorem LInv.finish {p : Par} {base : Nat} {ρ0 : Place} {w0 : World} {Ms M0 : Mem} {F0 : T AV} {D0 : List AD} {recs : T Rec} {L : Nat → Prop} {ρ : Place} {st : Option Nat} {a : Act} {w : World}
    (h : LInv p base ρ0 w0 Ms M0 F0 D0 recs L ρ st a w) (hS : Static p.ops p.bt) (_hMs : Ms.next = p.id0) (hall : ∀ j, j < p.ops.size → L j) {F : T AV} {st' : Option Nat} {pend : List (Nat × AB)}
    (rest : ∀ k, p.ops.size ≤ k → recs.get k = none)
    (chain : ∀ t, Chain p.ops recs F0 p.ops.size F t) (last : LastLoud recs p.ops.size st')
    (hp : ∀ j x, (j, x) ∈ pend ↔ (∃ r, recs.get j = some r ∧ r.w = .made x) ∧ ∀ l, isLoud recs l → ahead p.bt j l = false) :
    Step p.E base ρ0 w0 Ms ρ w (addAll p.id0 (memAt M0 recs st') pend) ∧ FR ρ F p.n a ∧ DR ρ D0 a.defers ∧ base ≤ w.heap.size := by
  have hlt : ∀ l, isLoud recs l → l < p.ops.size := fun l ⟨q, M, hq, _⟩ => by
    rcases Nat.lt_or_ge l p.ops.size with k | k
    · exact k
    · rw [rest l k] at hq; cases hq
  have hst : st' = st := by
    cases hs : st with
    | none =>
      cases hs' : st' with
      | none => rfl
      | some s' =>
        have hL := (last.2 s' hs').2
        obtain ⟨s, h1, _⟩ := (h.lst s' hL).1 (hall s' (hlt s' hL))
        rw [hs] at h1; cases h1
    | some s =>
      have hLs := h.lst2 s hs
      obtain ⟨s', h1, h2⟩ := last.1 s (hlt s hLs) hLs
      have hL' := (last.2 s' h1).2
      obtain ⟨s2, h3, h4⟩ := (h.lst s' hL').1 (hall s' (hlt s' hL'))
      rw [hs, Option.some.injEq] at h3
      rw [h1]
      congr 1
      omega
  subst hst
  have hlm : ∀ j r x, recs.get j = some r → r.w = .made x → j < p.ops.size := fun j r x h1 _ => by
    rcases Nat.lt_or_ge j p.ops.size with k | k
    · exact k
    · rw [rest j k] at h1; cases h1
  have hu : ∀ j x y, (j, x) ∈ pend → (j, y) ∈ pend → x = y := by
    intro j x y h1 h2
    obtain ⟨⟨r, a1, a2⟩, _⟩ := (hp j x).1 h1
    obtain ⟨⟨q, b1, b2⟩, _⟩ := (hp j y).1 h2
    rw [a1, Option.some.injEq] at b1
    subst b1
    rw [a2] at b2
    exact What.made.inj b2
  have hget := addAll_get p.id0 (memAt M0 recs st') pend hu
  have hcons := h.step.cons
  have key : ∀ b x, (addAll p.id0 (memAt M0 recs st') pend).bl.get b = some x → ((memAt M0 recs st').bl.get b = some x ∧ ∃ l, ρ b = some l ∧ BR ρ l x w) ∨
      ∃ j r l, b = p.id0 + j ∧ recs.get j = some r ∧ r.w = .made x ∧ L j ∧ (∀ l, isLoud recs l → L l → ahead p.bt j l = false) ∧ ρ b = some l ∧ BR ρ l x w ∧ w0.heap.size ≤ l.blk ∧
        ∀ b y m, (memAt M0 recs st').bl.get b = some y → ρ b = some m → m.blk ≠ l.blk := by
    intro b x hb
    rcases (hget b x).1 hb with ⟨j, hbj, hj⟩ | ⟨_, h2⟩
    · obtain ⟨⟨r, a1, a2⟩, a3⟩ := (hp j x).1 hj
      have hL := hall j (hlm j r x a1 a2)
      obtain ⟨l, e1, e2, e3, e4⟩ := h.early j r x a1 a2 hL fun l hl _ => a3 l hl
      exact .inr ⟨j, r, l, hbj, a1, a2, hL, fun l hl _ => a3 l hl, by rw [hbj]; exact e1, e2, e3, e4⟩
    · obtain ⟨l, e1, e2⟩ := hcons.blk b x h2
      exact .inl ⟨h2, l, e1, e2⟩
  refine ⟨{
    ext := h.step.ext
    cons := ⟨fun b x hb => ?_, fun b b' x x' l l' hb hb' hl hl' he => ?_, fun b l hl => by rw [addAll_next]; exact hcons.bound b l hl, hcons.low, hcons.glob, hcons.sym⟩
    frame := h.step.frame
    size := h.step.size
    img := fun b x l hb hl => ?_
    fresh := h.step.fresh
    next := by rw [addAll_next]; exact h.step.next
    os := h.step.os
    tape := h.step.tape
    output := h.step.output }, ⟨h.size, fun t => ?_⟩, h.defers, h.base⟩
  · rcases key b x hb with ⟨_, h2⟩ | ⟨j, r, l, _, _, _, _, _, h1, h2, _⟩
    · exact h2
    · exact ⟨l, h1, h2⟩
  · rcases key b x hb with ⟨k1, _⟩ | ⟨j, r, m, e0, e1, e2, e3, e4, e5, e6, e7, e8⟩ <;> rcases key b' x' hb' with ⟨k1', _⟩ | ⟨j', r', m', e0', e1', e2', e3', e4', e5', e6', e7', e8'⟩
    · exact hcons.inj b b' x x' l l' k1 k1' hl hl' he
    · rw [hl', Option.some.injEq] at e5'
      subst e5'
      exact absurd he (e8' b x l k1 hl)
    · rw [hl, Option.some.injEq] at e5
      subst e5
      exact absurd he.symm (e8 b' x' l' k1' hl')
    · have := h.apart j j' r r' x x' l l' e1 e2 e3 e1' e2' e3' e4 e4' (by rw [← e0]; exact hl) (by rw [← e0']; exact hl') he
      rw [e0, e0', this]
  · rcases key b x hb with ⟨k1, _⟩ | ⟨j, r, m, e0, e1, e2, e3, e4, e5, e6, e7, e8⟩
    · exact h.step.img b x l k1 hl
    · rw [hl, Option.some.injEq] at e5
      subst e5
      exact .inl e7
  · rcases h.tmps t with ⟨j, oj, rj, hj, hoj, hdj, hrj, hv⟩ | ⟨hno, hv⟩
    · rcases chain t with ⟨k, ok, rk, hk, hok, hdk, hrk, hF⟩ | ⟨hnone, _⟩
      · have : k = j := hS.single k j ok oj t hok hoj hdk hdj
        subst this
        rw [hrj, Option.some.injEq] at hrk
        subst hrk
        simp only [opd, hF]
        exact hv
      · have hjlt : j < p.ops.size := by
          rcases Nat.lt_or_ge j p.ops.size with k | k
          · exact k
          · rw [Array.getElem?_eq_none k] at hoj; cases hoj
        exact absurd hdj (hnone j oj hjlt hoj)
    · rcases chain t with ⟨k, ok, rk, hk, hok, hdk, hrk, hF⟩ | ⟨_, hF⟩
      · exact absurd hdk (hno k ok (hall k hk) hok)
      · simp only [opd] at hv ⊢
        rw [hF]
        exact hv

theorem drawA_ok {E : Env} (OK : E.OK) {base : Nat} {rd : Option Nat} {callF : CallF} (hs : SoundCall E base callF) (hent : ∀ f args M x, callF (.fn f) args M = some x → ∃ fn, E.fn.get f = some fn) {n : Nat} {ops : Array Oper}
    {Q : Exit → Act → World → Prop} {s : St} {x : AExit} {s' : St} (hd : drawA E callF n ops s = some (x, s')) {ρ0 : Place} {a0 : Act} {w0 : World} (hr : SR E base rd ρ0 s n a0 w0) (hb : Behind E base rd ρ0 w0 s.M n x s' Q) :
    wpAnyIn (W rd) 0 E.P .any ops Q ops.size (Array.replicate ops.size false) a0 w0 := by
  unfold drawA at hd
  split at hd
  · cases hd
  · rename_i hstat
    have hS := staticOk_ok hstat
    split at hd
    · cases hd
    · rename_i g fin hgo
      split at hd
      · cases hd
      · rename_i hchk
        obtain ⟨p, hpdef⟩ : ∃ p : Par, p = ⟨E, callF, n, ops, bitsOf ops, s.M.next⟩ := ⟨_, rfl⟩
        obtain ⟨M0, hM0⟩ : ∃ M0 : Mem, M0 = ⟨s.M.next + ops.size, s.M.bl⟩ := ⟨_, rfl⟩
        rw [← hpdef, ← hM0] at hgo hchk
        have hpE : p.E = E := by rw [hpdef]
        have hpC : p.callF = callF := by rw [hpdef]
        have hpn : p.n = n := by rw [hpdef]
        have hpo : p.ops = ops := by rw [hpdef]
        have hpb : p.bt = bitsOf ops := by rw [hpdef]
        have hpi : p.id0 = s.M.next := by rw [hpdef]
        have hSp : Static p.ops p.bt := by rw [hpo, hpb]; exact hS
        have hbt : ∀ j i, ahead p.bt j i = true → Reach p.ops j i := fun j i h => by rw [hpb] at h; rw [hpo]; exact ahead_ok h
        have hlt0 : ∀ j l, ahead p.bt j l = true → j < l := fun j l h => (hbt j l h).lt hSp
        have hOK0 : GoOK p s.F M0 ⟨0, s.F, M0, [], [], .leaf⟩ := {
          rest := fun k _ => rfl
          row := fun i o hi => by simp at hi
          chain := fun t => .inr ⟨fun j o hj => by simp at hj, rfl⟩
          last := ⟨fun l hl => by simp at hl, fun s hs => by simp [stOf] at hs⟩
          mem := rfl
          louds := fun l => by simp [isLoud]
          loudM := fun l M' h => by simp at h
          pend := fun j x => by simp }
        obtain ⟨hfacts, hlm, hml⟩ := goD_ok hlt0 ops.toList _ g fin (fun k => by rw [hpo]; simp) (by rw [hpo]; simp) hOK0 hgo
        generalize hrecs : g.recs = recs at hfacts hlm hml hchk
        -- the start
        have hM0n : memAt M0 recs none = M0 := rfl
        have hstart : LInv p base ρ0 w0 s.M M0 s.F s.D recs (Listed (Array.replicate ops.size false)) ρ0 none a0 w0 := by
          have hno : ∀ j, ¬ Listed (Array.replicate ops.size false) j := fun j h => by
            unfold Listed at h
            rw [Array.getD_eq_getD_getElem?, Array.getElem?_replicate] at h
            split at h <;> simp at h
          refine ⟨fun l _ => ⟨fun h => absurd h (hno l), (fun ⟨q, h, _⟩ => by cases h)⟩, (fun q h => by cases h), ?_, ?_, fun j r x _ _ h => absurd h (hno j), fun j _ _ _ _ _ _ _ _ _ h => absurd h (hno j), fun j r x _ _ _ => ?_, by rw [hpn]; exact hr.fr.size,
            fun t => .inr ⟨fun j o h => absurd h (hno j), hr.fr.get t⟩, hr.dr, fun j r h => absurd h (hno j), hr.base, fun i o h => absurd h (hno i)⟩
          · rw [hM0n, hM0, hpE]
            exact {
              ext := .refl _
              cons := ⟨hr.cons.blk, hr.cons.inj, fun b l h => by have := hr.cons.bound b l h; show b < s.M.next + ops.size; omega, hr.cons.low, hr.cons.glob, hr.cons.sym⟩
              frame := fun _ _ _ => rfl
              size := Nat.le_refl _
              img := fun b x l h1 h2 => .inr ⟨b, x, l, h1, h2, rfl⟩
              fresh := fun _ _ h => .inl h
              next := by show s.M.next ≤ s.M.next + ops.size; omega
              os := rfl
              tape := rfl
              output := rfl }
          · rw [hM0n, hM0, hpi, hpo]; exact Nat.le_refl _
          · cases hq : ρ0 (p.id0 + j) with
            | none => rfl
            | some l => have := hr.cons.bound _ _ hq; rw [hpi] at this; omega
        -- rows
        have hrow : ∀ (L : Nat → Prop) ρ st a w, LInv p base ρ0 w0 s.M M0 s.F s.D recs L ρ st a w → ∀ j o, p.ops[j]? = some o → (L j ∨ ∀ q ∈ preds o, L q) →
            ∃ r, recs.get j = some r ∧ RecOK p s.F M0 recs j o r := by
          intro L ρ st a w hI j o ho hj
          have hjlt : j < p.ops.size := by
            rcases Nat.lt_or_ge j p.ops.size with k | k
            · exact k
            · rw [Array.getElem?_eq_none k] at ho; cases ho
          cases hfacts with
          | norm row rest chain last hp =>
            obtain ⟨r, h1, h2, _⟩ := row j o hjlt ho
            exact ⟨r, h1, h2⟩
          | pan hi hoi hri hdi hrowi row rest hw hop hpre behind =>
            rename_i i M' Mp oi ri
            rcases Nat.lt_trichotomy j i with k | k | k
            · obtain ⟨r, h1, h2, _⟩ := row j o k ho
              exact ⟨r, h1, h2⟩
            · subst k
              rw [hoi, Option.some.injEq] at ho
              subst ho
              exact ⟨ri, hri, hrowi⟩
            · exfalso
              have hreach := hbt _ _ (behind j k hjlt)
              have : L i := by
                refine hreach.mem hI.closed fun o' ho' q hq => ?_
                rw [ho, Option.some.injEq] at ho'
                subst ho'
                rcases hj with hj | hj
                · exact hI.closed j o hj ho q hq
                · exact hj q hq
              exact hI.nodead i ri this hri hdi
        -- the region's end
        have hend : ∀ (L : Nat → Prop) ρ st a w, LInv p base ρ0 w0 s.M M0 s.F s.D recs L ρ st a w → (∀ j, j < ops.size → L j) → Q .normal a w := by
          intro L ρ st a w hI hall
          cases hfacts with
          | norm row rest chain last hp =>
            simp only [Option.some.injEq, Prod.mk.injEq] at hd
            obtain ⟨rfl, rfl⟩ := hd
            obtain ⟨f1, f2, f3, f4⟩ := hI.finish hSp hpi.symm (fun j hj => hall j (by rw [← hpo]; exact hj)) rest chain last hp
            rw [hpE] at f1
            rw [hpn] at f2
            exact hb ρ a w .normal f1 ⟨f1.cons, f2, f3, f4, hr.rd.mono f1.ext⟩ trivial
          | pan hi hoi hri hdi hrowi row rest hw hop hpre behind =>
            rename_i i M' Mp oi ri
            exact absurd hdi (hI.nodead i ri (hall i (by rw [← hpo]; exact hi)) hri)
        -- all orders
        have main : ∀ (fuel : Nat) (listed : Array Bool) (a : Act) (w : World) (ρ : Place) (st : Option Nat), listed.size = ops.size → left listed ops.size = fuel →
            LInv p base ρ0 w0 s.M M0 s.F s.D recs (Listed listed) ρ st a w → wpAnyIn (W rd) 0 E.P .any ops Q fuel listed a w := by
          intro fuel
          induction fuel with
          | zero =>
            intro listed a w ρ st hsz hleft hI
            have hall := left_zero hleft
            refine ⟨?_, hend _ _ _ _ _ hI hall⟩
            refine List.eq_nil_iff_forall_not_mem.2 fun j hj => ?_
            rw [mem_ready] at hj
            obtain ⟨h1, o, ho, _⟩ := hj
            have hjlt : j < ops.size := by
              rcases Nat.lt_or_ge j ops.size with k | k
              · exact k
              · rw [Array.getElem?_eq_none k] at ho; cases ho
            have := hall j hjlt
            rw [Array.getD_eq_getD_getElem?, Array.getElem?_eq_getElem (by omega)] at h1 this
            simp at h1 this
            rw [h1] at this; cases this
          | succ fuel ih =>
            intro listed a w ρ st hsz hleft hI
            refine ⟨fun hempty => hend _ _ _ _ _ hI (all_listed hS hsz hempty), fun i hi => ?_⟩
            rw [mem_ready] at hi
            obtain ⟨hni, o, ho, hpre⟩ := hi
            have hilt : i < ops.size := by
              rcases Nat.lt_or_ge i ops.size with k | k
              · exact k
              · rw [Array.getElem?_eq_none k] at ho; cases ho
            have hnl : ¬ Listed listed i := by
              unfold Listed
              rw [Array.getD_eq_getD_getElem?, Array.getElem?_eq_getElem (by omega)] at hni ⊢
              simp at hni ⊢
              exact hni
            have hready : ∀ q ∈ preds o, Listed listed q := by
              intro q hq
              unfold preds at hq
              obtain ⟨e, he, rfl⟩ := List.mem_map.1 hq
              obtain ⟨he1, he2⟩ := List.mem_filter.1 he
              exact hpre e (by simpa using he1) he2
            have hop : p.ops[i]? = some o := by rw [hpo]; exact ho
            have hnext : ∀ {ρ' : Place} {st' : Option Nat} {a' : Act} {w' : World}, LInv p base ρ0 w0 s.M M0 s.F s.D recs (fun j => Listed listed j ∨ j = i) ρ' st' a' w' →
                wpAnyIn (W rd) 0 E.P .any ops Q fuel (listed.setIfInBounds i true) a' w' := by
              intro ρ' st' a' w' hI'
              refine ih _ a' w' ρ' st' (by simp [hsz]) ?_ (hI'.congr fun j => (getD_set (by omega)).symm)
              have := left_set (listed := listed) (i := i) (by omega) hnl ops.size
              rw [if_pos hilt] at this
              omega
            obtain ⟨r, hri, hrok⟩ := hrow _ _ _ _ _ hI i o hop (.inr hready)
            have hfr := hI.frame hSp hbt (fun j oj hj hoj => let ⟨q, h1, _⟩ := hrow _ _ _ _ _ hI j oj hoj (.inl hj); ⟨q, h1⟩) hop hnl hready hrok
            obtain ⟨hbef, haft⟩ := hI.before hbt hop hnl hready
            rw [hpn] at hfr
            have hcons := hI.step.cons
            rw [hpE] at hcons
            have hwantOf : ∀ b, wantA p.ops r.F o = some b → Region.wanted o (yielded ops a.tmps) = b := fun b h => wantA_ok hfr (by rw [← hpo]; exact h)
            -- a loud operation: where it stands
            have hloudst : ∀ {Mp : Mem}, PreOK p M0 recs i r.st Mp → (∀ l, isLoud recs l → i < l → ahead p.bt i l = true) →
                r.st = st ∧ (∀ l, isLoud recs l → Listed listed l → l < i) ∧ (∀ l, isLoud recs l → ¬ Listed listed l → i ≤ l) := by
              intro Mp hpreok hup
              have c1 : ∀ l, isLoud recs l → Listed listed l → l < i := fun l hL hl => by
                rcases Nat.lt_trichotomy l i with k | k | k
                · exact k
                · subst k; exact absurd hl hnl
                · have := hup l hL k
                  rw [haft l hl] at this; cases this
              have c2 : ∀ l, isLoud recs l → ¬ Listed listed l → i ≤ l := fun l hL hl => by
                rcases Nat.lt_or_ge l i with k | k
                · exact absurd (hbef l (hpreok.louds l k hL)) hl
                · exact k
              refine ⟨?_, c1, c2⟩
              cases hst : st with
              | none =>
                cases hst' : r.st with
                | none => rfl
                | some q =>
                  obtain ⟨d1, d2⟩ := hrok.last.2 q hst'
                  have : Listed listed q := hbef q (hpreok.louds q d1 d2)
                  obtain ⟨q2, e1, _⟩ := (hI.lst q d2).1 this
                  rw [hst] at e1; cases e1
              | some q =>
                have hLq := hI.lst2 q hst
                have hlq : Listed listed q := (hI.lst q hLq).2 ⟨q, hst, Nat.le_refl _⟩
                obtain ⟨q', e1, e2⟩ := hrok.last.1 q (c1 q hLq hlq) hLq
                obtain ⟨d1, d2⟩ := hrok.last.2 q' e1
                obtain ⟨q2, e3, e4⟩ := (hI.lst q' d2).1 (hbef q' (hpreok.louds q' d1 d2))
                rw [hst, Option.some.injEq] at e3
                rw [e1]
                congr 1
                omega
            unfold wpOpIn
            simp only [ho]
            have hwant := hrok.want
            have hdst := hrok.dst
            cases hw : r.w with
            | off =>
              rw [hw] at hwant
              simp only [] at hwant
              rw [hwantOf _ hwant.1]
              simp only [Bool.false_eq_true, if_false]
              exact ⟨fun _ _ => trivial, hnext (hI.still hSp hop hnl hready hri hdst (by rw [hw]; simp) (by rw [hw]; simp) (by rw [hw]; simp) (by rw [hwant.2]; simp [VR]))⟩
            | quiet =>
              rw [hw] at hwant
              simp only [] at hwant
              rw [hwantOf _ hwant.1]
              simp only [if_true]
              have hq : quiet E (memAt M0 recs st) r.F o = some r.v := by
                by_cases e : st = r.st
                · rw [e, ← hpE]; exact hwant.2
                · cases hgl : g.louds with
                  | nil =>
                    exfalso
                    have none_of : ∀ q, ¬ isLoud recs q := fun q hL => by
                      obtain ⟨M', hM⟩ := hml q hL
                      rw [hgl] at hM; simp at hM
                    apply e
                    cases hst : st with
                    | some q => exact absurd (hI.lst2 q hst) (none_of q)
                    | none =>
                      cases hst' : r.st with
                      | none => rfl
                      | some q => exact absurd (hrok.last.2 q hst').2 (none_of q)
                  | cons y ys =>
                    rw [hgl] at hchk
                    simp only [] at hchk
                    have hstg := checkGo_ok (p := p) ops.toList 0 (fun k => by rw [hpo]; simp) hchk i o r (Nat.zero_le _) hop hri hw
                    rw [← hpE]
                    refine stagesOk_ok hstg st _ (mem_stagesOf ?_) e (allowed_of fun q M hm => ?_)
                    · cases hst : st with
                      | none => exact .inl ⟨rfl, rfl⟩
                      | some q =>
                        obtain ⟨M', hM⟩ := hml q (hI.lst2 q hst)
                        refine .inr ⟨q, rfl, ?_⟩
                        obtain ⟨rq, h1, h2⟩ := hlm q M' hM
                        have : memAt M0 recs (some q) = M' := by
                          simp only [memAt, h1]
                          obtain ⟨rF, rv, rw', rst⟩ := rq
                          simp only at h2
                          subst h2
                          rfl
                        rw [this, ← hgl]
                        exact hM
                    · rw [← hgl] at hm
                      obtain ⟨rq, h1, h2⟩ := hlm q M hm
                      have hLq : isLoud recs q := ⟨rq, M, h1, h2⟩
                      have hiff := hI.lst q hLq
                      cases hst : st with
                      | none =>
                        simp only []
                        cases hb' : ahead p.bt q i with
                        | false => rfl
                        | true =>
                          obtain ⟨z, e1, _⟩ := hiff.1 (hbef q hb')
                          rw [hst] at e1; cases e1
                      | some z =>
                        simp only []
                        refine ⟨fun hzq => ?_, fun hqz => haft q (hiff.2 ⟨z, hst, hqz⟩)⟩
                        cases hb' : ahead p.bt q i with
                        | false => rfl
                        | true =>
                          obtain ⟨z', e1, e2⟩ := hiff.1 (hbef q hb')
                          rw [hst, Option.some.injEq] at e1
                          omega
              obtain ⟨y, hy1, hy2⟩ := quiet_ok OK hcons hfr hq
              refine wpIn_value hy1 ?_
              exact hnext (hI.still hSp hop hnl hready hri hdst (by rw [hw]; simp) (by rw [hw]; simp) (by rw [hw]; simp) hy2)
            | made blk =>
              rw [hw] at hwant
              simp only [] at hwant
              obtain ⟨hwt, f, hm, hv⟩ := hwant
              rw [hwantOf _ hwt]
              simp only [if_true]
              have hmr := madeA_ok OK hfr (by rw [← hpE]; exact hm) w
              obtain ⟨y, w', ρ', e1, e2⟩ := hI.make hSp hpi.symm hr.base hop hnl hready haft hri hdst hw hv (by rw [hpE]; exact hmr)
              exact wpIn_value e1 (hnext e2)
            | loud M' =>
              rw [hw] at hwant
              simp only [] at hwant
              obtain ⟨hwt, Mp, hopc, hpreok⟩ := hwant
              rw [hwantOf _ hwt]
              simp only [if_true]
              have hup : ∀ l, isLoud recs l → i < l → ahead p.bt i l = true := by
                rintro l ⟨q, N, h1, h2⟩ hil
                have hllt : l < p.ops.size := by
                  rcases Nat.lt_or_ge l p.ops.size with k | k
                  · exact k
                  · cases hfacts with
                    | norm row rest chain last hp => rw [rest l k] at h1; cases h1
                    | pan hi2 hoi hri2 hdi hrowi row rest hw2 hop2 hpre2 behind => rw [rest l (by omega)] at h1; cases h1
                obtain ⟨ol, hol⟩ : ∃ ol, p.ops[l]? = some ol := ⟨_, Array.getElem?_eq_getElem hllt⟩
                have hL : isLoud recs i := ⟨r, M', hri, hw⟩
                cases hfacts with
                | norm row rest chain last hp =>
                  obtain ⟨rl, g1, g2, _⟩ := row l ol hllt hol
                  rw [h1, Option.some.injEq] at g1
                  subst g1
                  have := g2.want
                  rw [h2] at this
                  simp only [] at this
                  obtain ⟨_, Mq, _, hpq⟩ := this
                  exact hpq.louds i hil hL
                | pan hi2 hoi hri2 hdi hrowi row rest hw2 hop2 hpre2 behind =>
                  rename_i i2 M2 Mp2 oi2 ri2
                  rcases Nat.lt_trichotomy l i2 with k | k | k
                  · obtain ⟨rl, g1, g2, _⟩ := row l ol k hol
                    rw [h1, Option.some.injEq] at g1
                    subst g1
                    have := g2.want
                    rw [h2] at this
                    simp only [] at this
                    obtain ⟨_, Mq, _, hpq⟩ := this
                    exact hpq.louds i hil hL
                  · subst k
                    rw [hri2, Option.some.injEq] at h1
                    subst h1
                    rw [hdi] at h2; cases h2
                  · rw [rest l k] at h1; cases h1
              obtain ⟨hsteq, c1, c2⟩ := hloudst hpreok hup
              rw [hsteq] at hpreok
              obtain ⟨hcp, _⟩ := hI.pre hpreok hbef haft c1
              rw [hpE] at hcp
              rw [hpE, hpC] at hopc
              refine Up.wpIn (opC_ok OK hs hent hcp hI.base hfr hopc fun ρ' y w' k1 k2 => ?_) fun c hc => absurd hc (opC_val hopc c)
              refine hnext (hI.loud hSp hop hnl hready hri hdst hw hpreok hbef haft c1 c2 (fun k hk => ?_) (by rw [hpE]; exact k1) k2)
              cases hfacts with
              | norm row rest chain last hp => exact rest k hk
              | pan hi2 hoi hri2 hdi hrowi row rest hw2 hop2 hpre2 behind => exact rest k (by omega)
            | dead =>
              cases hfacts with
              | norm row rest chain last hp =>
                obtain ⟨rl, g1, _, g3⟩ := row i o (by rw [hpo]; exact hilt) hop
                rw [hri, Option.some.injEq] at g1
                subst g1
                exact absurd hw g3
              | pan hi2 hoi hri2 hdi hrowi row rest hw2 hop2 hpre2 behind =>
                rename_i ch i2 M2 Mp oi2 ri2
                have hii : i = i2 := by
                  rcases Nat.lt_trichotomy i i2 with k | k | k
                  · obtain ⟨rl, g1, _, g3⟩ := row i o k hop
                    rw [hri, Option.some.injEq] at g1
                    subst g1
                    exact absurd hw g3
                  · exact k
                  · rw [rest i k] at hri; cases hri
                subst hii
                rw [hri, Option.some.injEq] at hri2
                subst hri2
                rw [hop, Option.some.injEq] at hoi
                subst hoi
                simp only [Option.some.injEq, Prod.mk.injEq] at hd
                obtain ⟨rfl, rfl⟩ := hd
                rw [hwantOf _ hw2]
                simp only [if_true]
                obtain ⟨hsteq, c1, c2⟩ := hloudst hpre2 (fun l ⟨q, N, h1, h2⟩ hil => by rw [rest l hil] at h1; cases h1)
                rw [hsteq] at hpre2
                obtain ⟨hcp, _⟩ := hI.pre hpre2 hbef haft c1
                rw [hpE] at hcp
                rw [hpE, hpC] at hop2
                refine Up.wpIn (opC_ok OK hs hent hcp hI.base hfr hop2 fun ρ' chain w' k1 k2 => ?_) fun c hc => absurd hc (opC_pan hop2 c)
                have hst' := hI.loudStep hpre2 hbef haft c1 (by rw [hpE]; exact k1)
                rw [hpE] at hst'
                refine hb ρ' a w' (.panic chain) hst' ⟨k1.cons, ⟨by rw [← hpn]; exact hI.size, fun t => ?_⟩, hI.defers.mono k1.ext, Nat.le_trans hI.base k1.size, hr.rd.mono hst'.ext⟩ k2
                rcases unkAll_get s.F ops.toList t with h1 | ⟨h1, h2⟩
                · simp [opd, h1, VR]
                · rcases hI.tmps t with ⟨j, oj, rj, hj, hoj, hdj, hrj, hv⟩ | ⟨hno, hv⟩
                  · exfalso
                    rw [hpo] at hoj
                    exact h1 oj (by simpa using Array.mem_of_getElem? hoj) hdj
                  · simp only [opd] at hv ⊢
                    rw [h2]
                    exact hv.mono k1.ext
        exact main ops.size _ a0 w0 ρ0 none (by simp) (left_new _ _ (Nat.le_refl _)) hstart

end Go.Proofs.YtiamenedboifeabGreatDoor.Rx

/- The evaluator, fourth part: code, calls, its soundness. -/
import Derived.Test.YtkeibmkcgnppeaaGreatDoorZRc
import Derived.RangeFuncLeaves
import Derived.ChangeArms
import Derived.OpenShut
import Derived.FnData
import Derived.ProofKit
import Derived.ChangeSame
import Derived.Carry
import GoSem.ClaimGoes
import Derived.KernelRfl
namespace Go.Proofs.YtkeibmkcgnppeaaGreatDoor.Rx
def unkAll (F : T AV) : List Oper → T AV
  | [] => F
  | o :: r => match o.dst with
    | some d => (unkAll F r).set d .unk
    | none => unkAll F r
theorem unkAll_get (F : T AV) : ∀ (l : List Oper) (t : Tmp), (unkAll F l).get t = some .unk ∨ ((∀ o ∈ l, o.dst ≠ some t) ∧ (unkAll F l).get t = F.get t)
  | [], t => .inr ⟨by simp, rfl⟩
  | o :: r, t => by
    simp only [unkAll]
    split
    · rename_i d hd
      rw [T.get_set]
      by_cases e : t = d
      · rw [if_pos e]; exact .inl rfl
      · rw [if_neg e]
        rcases unkAll_get F r t with h | ⟨h1, h2⟩
        · exact .inl h
        · refine .inr ⟨fun o' ho' => ?_, h2⟩
          rcases List.mem_cons.1 ho' with rfl | ho'
          · rw [hd]; simp only [ne_eq, Option.some.injEq]; exact fun k => e k.symm
          · exact h1 o' ho'
    · rename_i hd
      rcases unkAll_get F r t with h | ⟨h1, h2⟩
      · exact .inl h
      · refine .inr ⟨fun o' ho' => ?_, h2⟩
        rcases List.mem_cons.1 ho' with rfl | ho'
        · rw [hd]; simp
        · exact h1 o' ho'
def drawA (E : Env) (callF : CallF) (n : Nat) (ops : Array Oper) (s : St) : Option (AExit × St) :=
  match staticOk ops (bitsOf ops) with
  | false => none
  | true => match goD ⟨E, callF, n, ops, bitsOf ops, s.M.next⟩ ops.toList ⟨0, s.F, ⟨s.M.next + ops.size, s.M.bl⟩, [], [], .leaf⟩ with
    | none => none
    | some (g, fin) => match (match g.louds with
        | [] => true
        | _ :: _ => checkGo ⟨E, callF, n, ops, bitsOf ops, s.M.next⟩ g.louds (stagesOf ⟨s.M.next + ops.size, s.M.bl⟩ g.louds) g.recs ops.toList 0) with
      | false => none
      | true => match fin with
        | .norm F M => some (.normal, { s with F := F, M := M })
        | .pan ch _ M => some (.panic ch, { s with F := unkAll s.F ops.toList, M := M })
def left (listed : Array Bool) : Nat → Nat
  | 0 => 0
  | n + 1 => left listed n + (if listed.getD n false = true then 0 else 1)
theorem left_zero {listed : Array Bool} : ∀ {n : Nat}, left listed n = 0 → ∀ j, j < n → listed.getD j false = true
  | 0, _, j, hj => by omega
  | n + 1, h, j, hj => by
    simp only [left] at h
    by_cases e : j = n
    · subst e
      by_cases k : listed.getD j false = true
      · exact k
      · rw [if_neg k] at h; omega
    · exact left_zero (n := n) (by omega) j (by omega)
theorem getD_set {listed : Array Bool} {i j : Nat} (hi : i < listed.size) : (listed.setIfInBounds i true).getD j false = true ↔ listed.getD j false = true ∨ j = i := by
  by_cases e : j = i
  · subst e
    simp [Array.getD_eq_getD_getElem?, hi]
  · have : (listed.setIfInBounds i true).getD j false = listed.getD j false := by
      simp only [Array.getD_eq_getD_getElem?]
      rw [Array.getElem?_setIfInBounds_ne (fun k => e k.symm)]
    rw [this]
    simp [e]
theorem left_set {listed : Array Bool} {i : Nat} (hi : i < listed.size) (hn : ¬ listed.getD i false = true) : ∀ (n : Nat), left (listed.setIfInBounds i true) n + (if i < n then 1 else 0) = left listed n
  | 0 => by simp [left]
  | n + 1 => by
    have ih := left_set hi hn n
    simp only [left]
    by_cases e : n = i
    · subst e
      have h1 : (listed.setIfInBounds n true).getD n false = true := (getD_set hi).2 (.inr rfl)
      rw [if_pos h1, if_neg hn]
      simp only [Nat.lt_irrefl, if_false] at ih
      rw [if_pos (by omega)]
      omega
    · have h1 : (listed.setIfInBounds i true).getD n false = true ↔ listed.getD n false = true := by
        rw [getD_set hi]
        simp [e]
      simp only [h1]
      by_cases hin : i < n
      · have hi1 : i < n + 1 := by omega
        rw [if_pos hin] at ih
        rw [if_pos hi1]
        omega
      · have hi1 : ¬ i < n + 1 := by omega
        rw [if_neg hin] at ih
        rw [if_neg hi1]
        omega
theorem left_new : ∀ (n m : Nat), n ≤ m → left (Array.replicate m false) n = n
  | 0, _, _ => rfl
  | n + 1, m, h => by
    simp only [left]
    rw [left_new n m (by omega)]
    have : (Array.replicate m false).getD n false = false := by
      rw [Array.getD_eq_getD_getElem?, Array.getElem?_replicate]
      split <;> rfl
    rw [this]
    rfl
def Listed (listed : Array Bool) (j : Nat) : Prop := listed.getD j false = true
theorem all_listed {ops : Array Oper} {bt : T Nat} (hS : Static ops bt) {listed : Array Bool} (hsz : listed.size = ops.size) (h : Region.ready .any ops listed = []) : ∀ j, j < ops.size → Listed listed j := by
  intro j
  induction j using Nat.strongRecOn with
  | _ j ih =>
    intro hj
    refine Classical.byContradiction fun hn => ?_
    have : j ∈ Region.ready .any ops listed := by
      rw [mem_ready]
      refine ⟨?_, ops[j], by simp [hj], fun e he hb => ?_⟩
      · unfold Listed at hn
        rw [Array.getD_eq_getD_getElem?, Array.getElem?_eq_getElem (by omega)] at hn ⊢
        simpa using hn
      · have hq : e.on ∈ preds ops[j] := by
          unfold preds
          refine List.mem_map.2 ⟨e, List.mem_filter.2 ⟨by simpa using he, hb⟩, rfl⟩
        have hlt := hS.preds j ops[j] e.on (by simp [hj]) hq
        exact ih e.on hlt (by omega)
    rw [h] at this
    simp at this
theorem LInv.congr {p : Par} {base : Nat} {ρ0 : Place} {w0 : World} {Ms M0 : Mem} {F0 : T AV} {D0 : List AD} {recs : T Rec} {L L' : Nat → Prop} {ρ : Place} {st : Option Nat} {a : Act} {w : World}
    (h : LInv p base ρ0 w0 Ms M0 F0 D0 recs L ρ st a w) (e : ∀ j, L j ↔ L' j) : LInv p base ρ0 w0 Ms M0 F0 D0 recs L' ρ st a w := by
  have : L = L' := funext fun j => propext (e j)
  subst this
  exact h
theorem LInv.finish {p : Par} {base : Nat} {ρ0 : Place} {w0 : World} {Ms M0 : Mem} {F0 : T AV} {D0 : List AD} {recs : T Rec} {L : Nat → Prop} {ρ : Place} {st : Option Nat} {a : Act} {w : World}
    (h : LInv p base ρ0 w0 Ms M0 F0 D0 recs L ρ st a w) (hS : Static p.ops p.bt) (_hMs : Ms.next = p.id0) (hall : ∀ j, j < p.ops.size → L j) {F : T AV} {st' : Option Nat} {pend : List (Nat × AB)}
    (rest : ∀ k, p.ops.size ≤ k → recs.get k = none)
    (chain : ∀ t, Chain p.ops recs F0 p.ops.size F t) (last : LastLoud recs p.ops.size st')
    (hp : ∀ j x, (j, x) ∈ pend ↔ (∃ r, recs.get j = some r ∧ r.w = .made x) ∧ ∀ l, isLoud recs l → ahead p.bt j l = false) :
    Step p.E base ρ0 w0 Ms ρ w (addAll p.id0 (memAt M0 recs st') pend) ∧ FR ρ F p.n a ∧ DR ρ D0 a.defers ∧ base ≤ w.heap.size := by
  have hlt : ∀ l, isLoud recs l → l < p.ops.size := fun l ⟨q, M, hq, _⟩ => by
    rcases Nat.lt_or_ge l p.ops.size with k | k
    · exact k
    · rw [rest l k] at hq; cases hq
  have hst : st' = st := by
    cases hs : st with
    | none =>
      cases hs' : st' with
      | none => rfl
      | some s' =>
        have hL := (last.2 s' hs').2
        obtain ⟨s, h1, _⟩ := (h.lst s' hL).1 (hall s' (hlt s' hL))
        rw [hs] at h1; cases h1
    | some s =>
      have hLs := h.lst2 s hs
      obtain ⟨s', h1, h2⟩ := last.1 s (hlt s hLs) hLs
      have hL' := (last.2 s' h1).2
      obtain ⟨s2, h3, h4⟩ := (h.lst s' hL').1 (hall s' (hlt s' hL'))
      rw [hs, Option.some.injEq] at h3
      rw [h1]
      congr 1
      omega
  subst hst
  have hlm : ∀ j r x, recs.get j = some r → r.w = .made x → j < p.ops.size := fun j r x h1 _ => by
    rcases Nat.lt_or_ge j p.ops.size with k | k
    · exact k
    · rw [rest j k] at h1; cases h1
  have hu : ∀ j x y, (j, x) ∈ pend → (j, y) ∈ pend → x = y := by
    intro j x y h1 h2
    obtain ⟨⟨r, a1, a2⟩, _⟩ := (hp j x).1 h1
    obtain ⟨⟨q, b1, b2⟩, _⟩ := (hp j y).1 h2
    rw [a1, Option.some.injEq] at b1
    subst b1
    rw [a2] at b2
    exact What.made.inj b2
  have hget := addAll_get p.id0 (memAt M0 recs st') pend hu
  have hcons := h.step.cons
  have key : ∀ b x, (addAll p.id0 (memAt M0 recs st') pend).bl.get b = some x → ((memAt M0 recs st').bl.get b = some x ∧ ∃ l, ρ b = some l ∧ BR ρ l x w) ∨
      ∃ j r l, b = p.id0 + j ∧ recs.get j = some r ∧ r.w = .made x ∧ L j ∧ (∀ l, isLoud recs l → L l → ahead p.bt j l = false) ∧ ρ b = some l ∧ BR ρ l x w ∧ w0.heap.size ≤ l.blk ∧
        ∀ b y m, (memAt M0 recs st').bl.get b = some y → ρ b = some m → m.blk ≠ l.blk := by
    intro b x hb
    rcases (hget b x).1 hb with ⟨j, hbj, hj⟩ | ⟨_, h2⟩
    · obtain ⟨⟨r, a1, a2⟩, a3⟩ := (hp j x).1 hj
      have hL := hall j (hlm j r x a1 a2)
      obtain ⟨l, e1, e2, e3, e4⟩ := h.early j r x a1 a2 hL fun l hl _ => a3 l hl
      exact .inr ⟨j, r, l, hbj, a1, a2, hL, fun l hl _ => a3 l hl, by rw [hbj]; exact e1, e2, e3, e4⟩
    · obtain ⟨l, e1, e2⟩ := hcons.blk b x h2
      exact .inl ⟨h2, l, e1, e2⟩
  refine ⟨{
    ext := h.step.ext
    cons := ⟨fun b x hb => ?_, fun b b' x x' l l' hb hb' hl hl' he => ?_, fun b l hl => by rw [addAll_next]; exact hcons.bound b l hl, hcons.low, hcons.glob, hcons.sym⟩
    frame := h.step.frame
    size := h.step.size
    img := fun b x l hb hl => ?_
    fresh := h.step.fresh
    next := by rw [addAll_next]; exact h.step.next
    os := h.step.os
    tape := h.step.tape
    output := h.step.output }, ⟨h.size, fun t => ?_⟩, h.defers, h.base⟩
  · rcases key b x hb with ⟨_, h2⟩ | ⟨j, r, l, _, _, _, _, _, h1, h2, _⟩
    · exact h2
    · exact ⟨l, h1, h2⟩
  · rcases key b x hb with ⟨k1, _⟩ | ⟨j, r, m, e0, e1, e2, e3, e4, e5, e6, e7, e8⟩ <;> rcases key b' x' hb' with ⟨k1', _⟩ | ⟨j', r', m', e0', e1', e2', e3', e4', e5', e6', e7', e8'⟩
    · exact hcons.inj b b' x x' l l' k1 k1' hl hl' he
    · rw [hl', Option.some.injEq] at e5'
      subst e5'
      exact absurd he (e8' b x l k1 hl)
    · rw [hl, Option.some.injEq] at e5
      subst e5
      exact absurd he.symm (e8 b' x' l' k1' hl')
    · have := h.apart j j' r r' x x' l l' e1 e2 e3 e1' e2' e3' e4 e4' (by rw [← e0]; exact hl) (by rw [← e0']; exact hl') he
      rw [e0, e0', this]
  · rcases key b x hb with ⟨k1, _⟩ | ⟨j, r, m, e0, e1, e2, e3, e4, e5, e6, e7, e8⟩
    · exact h.step.img b x l k1 hl
    · rw [hl, Option.some.injEq] at e5
      subst e5
      exact .inl e7
  · rcases h.tmps t with ⟨j, oj, rj, hj, hoj, hdj, hrj, hv⟩ | ⟨hno, hv⟩
    · rcases chain t with ⟨k, ok, rk, hk, hok, hdk, hrk, hF⟩ | ⟨hnone, _⟩
      · have : k = j := hS.single k j ok oj t hok hoj hdk hdj
        subst this
        rw [hrj, Option.some.injEq] at hrk
        subst hrk
        simp only [opd, hF]
        exact hv
      · have hjlt : j < p.ops.size := by
          rcases Nat.lt_or_ge j p.ops.size with k | k
          · exact k
          · rw [Array.getElem?_eq_none k] at hoj; cases hoj
        exact absurd hdj (hnone j oj hjlt hoj)
    · rcases chain t with ⟨k, ok, rk, hk, hok, hdk, hrk, hF⟩ | ⟨_, hF⟩
      · exact absurd hdk (hno k ok (hall k hk) hok)
      · simp only [opd] at hv ⊢
        rw [hF]
        exact hv
theorem drawA_ok {E : Env} (OK : E.OK) {base : Nat} {rd : Option Nat} {callF : CallF} (hs : SoundCall E base callF) (hent : ∀ f args M x, callF (.fn f) args M = some x → ∃ fn, E.fn.get f = some fn) {n : Nat} {ops : Array Oper}
    {Q : Exit → Act → World → Prop} {s : St} {x : AExit} {s' : St} (hd : drawA E callF n ops s = some (x, s')) {ρ0 : Place} {a0 : Act} {w0 : World} (hr : SR E base rd ρ0 s n a0 w0) (hb : Behind E base rd ρ0 w0 s.M n x s' Q) :
    wpAnyIn (W rd) 0 E.P .any ops Q ops.size (Array.replicate ops.size false) a0 w0 := by
  unfold drawA at hd
  split at hd
  · cases hd
  · rename_i hstat
    have hS := staticOk_ok hstat
    split at hd
    · cases hd
    · rename_i g fin hgo
      split at hd
      · cases hd
      · rename_i hchk
        obtain ⟨p, hpdef⟩ : ∃ p : Par, p = ⟨E, callF, n, ops, bitsOf ops, s.M.next⟩ := ⟨_, rfl⟩
        obtain ⟨M0, hM0⟩ : ∃ M0 : Mem, M0 = ⟨s.M.next + ops.size, s.M.bl⟩ := ⟨_, rfl⟩
        rw [← hpdef, ← hM0] at hgo hchk
        have hpE : p.E = E := by rw [hpdef]
        have hpC : p.callF = callF := by rw [hpdef]
        have hpn : p.n = n := by rw [hpdef]
        have hpo : p.ops = ops := by rw [hpdef]
        have hpb : p.bt = bitsOf ops := by rw [hpdef]
        have hpi : p.id0 = s.M.next := by rw [hpdef]
        have hSp : Static p.ops p.bt := by rw [hpo, hpb]; exact hS
        have hbt : ∀ j i, ahead p.bt j i = true → Reach p.ops j i := fun j i h => by rw [hpb] at h; rw [hpo]; exact ahead_ok h
        have hlt0 : ∀ j l, ahead p.bt j l = true → j < l := fun j l h => (hbt j l h).lt hSp
        have hOK0 : GoOK p s.F M0 ⟨0, s.F, M0, [], [], .leaf⟩ := {
          rest := fun k _ => rfl
          row := fun i o hi => by simp at hi
          chain := fun t => .inr ⟨fun j o hj => by simp at hj, rfl⟩
          last := ⟨fun l hl => by simp at hl, fun s hs => by simp [stOf] at hs⟩
          mem := rfl
          louds := fun l => by simp [isLoud]
          loudM := fun l M' h => by simp at h
          pend := fun j x => by simp }
        obtain ⟨hfacts, hlm, hml⟩ := goD_ok hlt0 ops.toList _ g fin (fun k => by rw [hpo]; simp) (by rw [hpo]; simp) hOK0 hgo
        generalize hrecs : g.recs = recs at hfacts hlm hml hchk
        -- the start
        have hM0n : memAt M0 recs none = M0 := rfl
        have hstart : LInv p base ρ0 w0 s.M M0 s.F s.D recs (Listed (Array.replicate ops.size false)) ρ0 none a0 w0 := by
          have hno : ∀ j, ¬ Listed (Array.replicate ops.size false) j := fun j h => by
            unfold Listed at h
            rw [Array.getD_eq_getD_getElem?, Array.getElem?_replicate] at h
            split at h <;> simp at h
          refine ⟨fun l _ => ⟨fun h => absurd h (hno l), (fun ⟨q, h, _⟩ => by cases h)⟩, (fun q h => by cases h), ?_, ?_, fun j r x _ _ h => absurd h (hno j), fun j _ _ _ _ _ _ _ _ _ h => absurd h (hno j), fun j r x _ _ _ => ?_, by rw [hpn]; exact hr.fr.size,
            fun t => .inr ⟨fun j o h => absurd h (hno j), hr.fr.get t⟩, hr.dr, fun j r h => absurd h (hno j), hr.base, fun i o h => absurd h (hno i)⟩
          · rw [hM0n, hM0, hpE]
            exact {
              ext := .refl _
              cons := ⟨hr.cons.blk, hr.cons.inj, fun b l h => by have := hr.cons.bound b l h; show b < s.M.next + ops.size; omega, hr.cons.low, hr.cons.glob, hr.cons.sym⟩
              frame := fun _ _ _ => rfl
              size := Nat.le_refl _
              img := fun b x l h1 h2 => .inr ⟨b, x, l, h1, h2, rfl⟩
              fresh := fun _ _ h => .inl h
              next := by show s.M.next ≤ s.M.next + ops.size; omega
              os := rfl
              tape := rfl
              output := rfl }
          · rw [hM0n, hM0, hpi, hpo]; exact Nat.le_refl _
          · cases hq : ρ0 (p.id0 + j) with
            | none => rfl
            | some l => have := hr.cons.bound _ _ hq; rw [hpi] at this; omega
        -- rows
        have hrow : ∀ (L : Nat → Prop) ρ st a w, LInv p base ρ0 w0 s.M M0 s.F s.D recs L ρ st a w → ∀ j o, p.ops[j]? = some o → (L j ∨ ∀ q ∈ preds o, L q) →
            ∃ r, recs.get j = some r ∧ RecOK p s.F M0 recs j o r := by
          intro L ρ st a w hI j o ho hj
          have hjlt : j < p.ops.size := by
            rcases Nat.lt_or_ge j p.ops.size with k | k
            · exact k
            · rw [Array.getElem?_eq_none k] at ho; cases ho
          cases hfacts with
          | norm row rest chain last hp =>
            obtain ⟨r, h1, h2, _⟩ := row j o hjlt ho
            exact ⟨r, h1, h2⟩
          | pan hi hoi hri hdi hrowi row rest hw hop hpre behind =>
            rename_i i M' Mp oi ri
            rcases Nat.lt_trichotomy j i with k | k | k
            · obtain ⟨r, h1, h2, _⟩ := row j o k ho
              exact ⟨r, h1, h2⟩
            · subst k
              rw [hoi, Option.some.injEq] at ho
              subst ho
              exact ⟨ri, hri, hrowi⟩
            · exfalso
              have hreach := hbt _ _ (behind j k hjlt)
              have : L i := by
                refine hreach.mem hI.closed fun o' ho' q hq => ?_
                rw [ho, Option.some.injEq] at ho'
                subst ho'
                rcases hj with hj | hj
                · exact hI.closed j o hj ho q hq
                · exact hj q hq
              exact hI.nodead i ri this hri hdi
        -- the region's end
        have hend : ∀ (L : Nat → Prop) ρ st a w, LInv p base ρ0 w0 s.M M0 s.F s.D recs L ρ st a w → (∀ j, j < ops.size → L j) → Q .normal a w := by
          intro L ρ st a w hI hall
          cases hfacts with
          | norm row rest chain last hp =>
            simp only [Option.some.injEq, Prod.mk.injEq] at hd
            obtain ⟨rfl, rfl⟩ := hd
            obtain ⟨f1, f2, f3, f4⟩ := hI.finish hSp hpi.symm (fun j hj => hall j (by rw [← hpo]; exact hj)) rest chain last hp
            rw [hpE] at f1
            rw [hpn] at f2
            exact hb ρ a w .normal f1 ⟨f1.cons, f2, f3, f4, hr.rd.mono f1.ext⟩ trivial
          | pan hi hoi hri hdi hrowi row rest hw hop hpre behind =>
            rename_i i M' Mp oi ri
            exact absurd hdi (hI.nodead i ri (hall i (by rw [← hpo]; exact hi)) hri)
        -- all orders
        have main : ∀ (fuel : Nat) (listed : Array Bool) (a : Act) (w : World) (ρ : Place) (st : Option Nat), listed.size = ops.size → left listed ops.size = fuel →
            LInv p base ρ0 w0 s.M M0 s.F s.D recs (Listed listed) ρ st a w → wpAnyIn (W rd) 0 E.P .any ops Q fuel listed a w := by
          intro fuel
          induction fuel with
          | zero =>
            intro listed a w ρ st hsz hleft hI
            have hall := left_zero hleft
            refine ⟨?_, hend _ _ _ _ _ hI hall⟩
            refine List.eq_nil_iff_forall_not_mem.2 fun j hj => ?_
            rw [mem_ready] at hj
            obtain ⟨h1, o, ho, _⟩ := hj
            have hjlt : j < ops.size := by
              rcases Nat.lt_or_ge j ops.size with k | k
              · exact k
              · rw [Array.getElem?_eq_none k] at ho; cases ho
            have := hall j hjlt
            rw [Array.getD_eq_getD_getElem?, Array.getElem?_eq_getElem (by omega)] at h1 this
            simp at h1 this
            rw [h1] at this; cases this
          | succ fuel ih =>
            intro listed a w ρ st hsz hleft hI
            refine ⟨fun hempty => hend _ _ _ _ _ hI (all_listed hS hsz hempty), fun i hi => ?_⟩
            rw [mem_ready] at hi
            obtain ⟨hni, o, ho, hpre⟩ := hi
            have hilt : i < ops.size := by
              rcases Nat.lt_or_ge i ops.size with k | k
              · exact k
              · rw [Array.getElem?_eq_none k] at ho; cases ho
            have hnl : ¬ Listed listed i := by
              unfold Listed
              rw [Array.getD_eq_getD_getElem?, Array.getElem?_eq_getElem (by omega)] at hni ⊢
              simp at hni ⊢
              exact hni
            have hready : ∀ q ∈ preds o, Listed listed q := by
              intro q hq
              unfold preds at hq
              obtain ⟨e, he, rfl⟩ := List.mem_map.1 hq
              obtain ⟨he1, he2⟩ := List.mem_filter.1 he
              exact hpre e (by simpa using he1) he2
            have hop : p.ops[i]? = some o := by rw [hpo]; exact ho
            have hnext : ∀ {ρ' : Place} {st' : Option Nat} {a' : Act} {w' : World}, LInv p base ρ0 w0 s.M M0 s.F s.D recs (fun j => Listed listed j ∨ j = i) ρ' st' a' w' →
                wpAnyIn (W rd) 0 E.P .any ops Q fuel (listed.setIfInBounds i true) a' w' := by
              intro ρ' st' a' w' hI'
              refine ih _ a' w' ρ' st' (by simp [hsz]) ?_ (hI'.congr fun j => (getD_set (by omega)).symm)
              have := left_set (listed := listed) (i := i) (by omega) hnl ops.size
              rw [if_pos hilt] at this
              omega
            obtain ⟨r, hri, hrok⟩ := hrow _ _ _ _ _ hI i o hop (.inr hready)
            have hfr := hI.frame hSp hbt (fun j oj hj hoj => let ⟨q, h1, _⟩ := hrow _ _ _ _ _ hI j oj hoj (.inl hj); ⟨q, h1⟩) hop hnl hready hrok
            obtain ⟨hbef, haft⟩ := hI.before hbt hop hnl hready
            rw [hpn] at hfr
            have hcons := hI.step.cons
            rw [hpE] at hcons
            have hwantOf : ∀ b, wantA p.ops r.F o = some b → Region.wanted o (yielded ops a.tmps) = b := fun b h => wantA_ok hfr (by rw [← hpo]; exact h)
            -- a loud operation: where it stands
            have hloudst : ∀ {Mp : Mem}, PreOK p M0 recs i r.st Mp → (∀ l, isLoud recs l → i < l → ahead p.bt i l = true) →
                r.st = st ∧ (∀ l, isLoud recs l → Listed listed l → l < i) ∧ (∀ l, isLoud recs l → ¬ Listed listed l → i ≤ l) := by
              intro Mp hpreok hup
              have c1 : ∀ l, isLoud recs l → Listed listed l → l < i := fun l hL hl => by
                rcases Nat.lt_trichotomy l i with k | k | k
                · exact k
                · subst k; exact absurd hl hnl
                · have := hup l hL k
                  rw [haft l hl] at this; cases this
              have c2 : ∀ l, isLoud recs l → ¬ Listed listed l → i ≤ l := fun l hL hl => by
                rcases Nat.lt_or_ge l i with k | k
                · exact absurd (hbef l (hpreok.louds l k hL)) hl
                · exact k
              refine ⟨?_, c1, c2⟩
              cases hst : st with
              | none =>
                cases hst' : r.st with
                | none => rfl
                | some q =>
                  obtain ⟨d1, d2⟩ := hrok.last.2 q hst'
                  have : Listed listed q := hbef q (hpreok.louds q d1 d2)
                  obtain ⟨q2, e1, _⟩ := (hI.lst q d2).1 this
                  rw [hst] at e1; cases e1
              | some q =>
                have hLq := hI.lst2 q hst
                have hlq : Listed listed q := (hI.lst q hLq).2 ⟨q, hst, Nat.le_refl _⟩
                obtain ⟨q', e1, e2⟩ := hrok.last.1 q (c1 q hLq hlq) hLq
                obtain ⟨d1, d2⟩ := hrok.last.2 q' e1
                obtain ⟨q2, e3, e4⟩ := (hI.lst q' d2).1 (hbef q' (hpreok.louds q' d1 d2))
                rw [hst, Option.some.injEq] at e3
                rw [e1]
                congr 1
                omega
            unfold wpOpIn
            simp only [ho]
            have hwant := hrok.want
            have hdst := hrok.dst
            cases hw : r.w with
            | off =>
              rw [hw] at hwant
              simp only [] at hwant
              rw [hwantOf _ hwant.1]
              simp only [Bool.false_eq_true, if_false]
              exact ⟨fun _ _ => trivial, hnext (hI.still hSp hop hnl hready hri hdst (by rw [hw]; simp) (by rw [hw]; simp) (by rw [hw]; simp) (by rw [hwant.2]; simp [VR]))⟩
            | quiet =>
              rw [hw] at hwant
              simp only [] at hwant
              rw [hwantOf _ hwant.1]
              simp only [if_true]
              have hq : quiet E (memAt M0 recs st) r.F o = some r.v := by
                by_cases e : st = r.st
                · rw [e, ← hpE]; exact hwant.2
                · cases hgl : g.louds with
                  | nil =>
                    exfalso
                    have none_of : ∀ q, ¬ isLoud recs q := fun q hL => by
                      obtain ⟨M', hM⟩ := hml q hL
                      rw [hgl] at hM; simp at hM
                    apply e
                    cases hst : st with
                    | some q => exact absurd (hI.lst2 q hst) (none_of q)
                    | none =>
                      cases hst' : r.st with
                      | none => rfl
                      | some q => exact absurd (hrok.last.2 q hst').2 (none_of q)
                  | cons y ys =>
                    rw [hgl] at hchk
                    simp only [] at hchk
                    have hstg := checkGo_ok (p := p) ops.toList 0 (fun k => by rw [hpo]; simp) hchk i o r (Nat.zero_le _) hop hri hw
                    rw [← hpE]
                    refine stagesOk_ok hstg st _ (mem_stagesOf ?_) e (allowed_of fun q M hm => ?_)
                    · cases hst : st with
                      | none => exact .inl ⟨rfl, rfl⟩
                      | some q =>
                        obtain ⟨M', hM⟩ := hml q (hI.lst2 q hst)
                        refine .inr ⟨q, rfl, ?_⟩
                        obtain ⟨rq, h1, h2⟩ := hlm q M' hM
                        have : memAt M0 recs (some q) = M' := by
                          simp only [memAt, h1]
                          obtain ⟨rF, rv, rw', rst⟩ := rq
                          simp only at h2
                          subst h2
                          rfl
                        rw [this, ← hgl]
                        exact hM
                    · rw [← hgl] at hm
                      obtain ⟨rq, h1, h2⟩ := hlm q M hm
                      have hLq : isLoud recs q := ⟨rq, M, h1, h2⟩
                      have hiff := hI.lst q hLq
                      cases hst : st with
                      | none =>
                        simp only []
                        cases hb' : ahead p.bt q i with
                        | false => rfl
                        | true =>
                          obtain ⟨z, e1, _⟩ := hiff.1 (hbef q hb')
                          rw [hst] at e1; cases e1
                      | some z =>
                        simp only []
                        refine ⟨fun hzq => ?_, fun hqz => haft q (hiff.2 ⟨z, hst, hqz⟩)⟩
                        cases hb' : ahead p.bt q i with
                        | false => rfl
                        | true =>
                          obtain ⟨z', e1, e2⟩ := hiff.1 (hbef q hb')
                          rw [hst, Option.some.injEq] at e1
                          omega
              obtain ⟨y, hy1, hy2⟩ := quiet_ok OK hcons hfr hq
              refine wpIn_value hy1 ?_
              exact hnext (hI.still hSp hop hnl hready hri hdst (by rw [hw]; simp) (by rw [hw]; simp) (by rw [hw]; simp) hy2)
            | made blk =>
              rw [hw] at hwant
              simp only [] at hwant
              obtain ⟨hwt, f, hm, hv⟩ := hwant
              rw [hwantOf _ hwt]
              simp only [if_true]
              have hmr := madeA_ok OK hfr (by rw [← hpE]; exact hm) w
              obtain ⟨y, w', ρ', e1, e2⟩ := hI.make hSp hpi.symm hr.base hop hnl hready haft hri hdst hw hv (by rw [hpE]; exact hmr)
              exact wpIn_value e1 (hnext e2)
            | loud M' =>
              rw [hw] at hwant
              simp only [] at hwant
              obtain ⟨hwt, Mp, hopc, hpreok⟩ := hwant
              rw [hwantOf _ hwt]
              simp only [if_true]
              have hup : ∀ l, isLoud recs l → i < l → ahead p.bt i l = true := by
                rintro l ⟨q, N, h1, h2⟩ hil
                have hllt : l < p.ops.size := by
                  rcases Nat.lt_or_ge l p.ops.size with k | k
                  · exact k
                  · cases hfacts with
                    | norm row rest chain last hp => rw [rest l k] at h1; cases h1
                    | pan hi2 hoi hri2 hdi hrowi row rest hw2 hop2 hpre2 behind => rw [rest l (by omega)] at h1; cases h1
                obtain ⟨ol, hol⟩ : ∃ ol, p.ops[l]? = some ol := ⟨_, Array.getElem?_eq_getElem hllt⟩
                have hL : isLoud recs i := ⟨r, M', hri, hw⟩
                cases hfacts with
                | norm row rest chain last hp =>
                  obtain ⟨rl, g1, g2, _⟩ := row l ol hllt hol
                  rw [h1, Option.some.injEq] at g1
                  subst g1
                  have := g2.want
                  rw [h2] at this
                  simp only [] at this
                  obtain ⟨_, Mq, _, hpq⟩ := this
                  exact hpq.louds i hil hL
                | pan hi2 hoi hri2 hdi hrowi row rest hw2 hop2 hpre2 behind =>
                  rename_i i2 M2 Mp2 oi2 ri2
                  rcases Nat.lt_trichotomy l i2 with k | k | k
                  · obtain ⟨rl, g1, g2, _⟩ := row l ol k hol
                    rw [h1, Option.some.injEq] at g1
                    subst g1
                    have := g2.want
                    rw [h2] at this
                    simp only [] at this
                    obtain ⟨_, Mq, _, hpq⟩ := this
                    exact hpq.louds i hil hL
                  · subst k
                    rw [hri2, Option.some.injEq] at h1
                    subst h1
                    rw [hdi] at h2; cases h2
                  · rw [rest l k] at h1; cases h1
              obtain ⟨hsteq, c1, c2⟩ := hloudst hpreok hup
              rw [hsteq] at hpreok
              obtain ⟨hcp, _⟩ := hI.pre hpreok hbef haft c1
              rw [hpE] at hcp
              rw [hpE, hpC] at hopc
              refine Up.wpIn (opC_ok OK hs hent hcp hI.base hfr hopc fun ρ' y w' k1 k2 => ?_) fun c hc => absurd hc (opC_val hopc c)
              refine hnext (hI.loud hSp hop hnl hready hri hdst hw hpreok hbef haft c1 c2 (fun k hk => ?_) (by rw [hpE]; exact k1) k2)
              cases hfacts with
              | norm row rest chain last hp => exact rest k hk
              | pan hi2 hoi hri2 hdi hrowi row rest hw2 hop2 hpre2 behind => exact rest k (by omega)
            | dead =>
              cases hfacts with
              | norm row rest chain last hp =>
                obtain ⟨rl, g1, _, g3⟩ := row i o (by rw [hpo]; exact hilt) hop
                rw [hri, Option.some.injEq] at g1
                subst g1
                exact absurd hw g3
              | pan hi2 hoi hri2 hdi hrowi row rest hw2 hop2 hpre2 behind =>
                rename_i ch i2 M2 Mp oi2 ri2
                have hii : i = i2 := by
                  rcases Nat.lt_trichotomy i i2 with k | k | k
                  · obtain ⟨rl, g1, _, g3⟩ := row i o k hop
                    rw [hri, Option.some.injEq] at g1
                    subst g1
                    exact absurd hw g3
                  · exact k
                  · rw [rest i k] at hri; cases hri
                subst hii
                rw [hri, Option.some.injEq] at hri2
                subst hri2
                rw [hop, Option.some.injEq] at hoi
                subst hoi
                simp only [Option.some.injEq, Prod.mk.injEq] at hd
                obtain ⟨rfl, rfl⟩ := hd
                rw [hwantOf _ hw2]
                simp only [if_true]
                obtain ⟨hsteq, c1, c2⟩ := hloudst hpre2 (fun l ⟨q, N, h1, h2⟩ hil => by rw [rest l hil] at h1; cases h1)
                rw [hsteq] at hpre2
                obtain ⟨hcp, _⟩ := hI.pre hpre2 hbef haft c1
                rw [hpE] at hcp
                rw [hpE, hpC] at hop2
                refine Up.wpIn (opC_ok OK hs hent hcp hI.base hfr hop2 fun ρ' chain w' k1 k2 => ?_) fun c hc => absurd hc (opC_pan hop2 c)
                have hst' := hI.loudStep hpre2 hbef haft c1 (by rw [hpE]; exact k1)
                rw [hpE] at hst'
                refine hb ρ' a w' (.panic chain) hst' ⟨k1.cons, ⟨by rw [← hpn]; exact hI.size, fun t => ?_⟩, hI.defers.mono k1.ext, Nat.le_trans hI.base k1.size, hr.rd.mono hst'.ext⟩ k2
                rcases unkAll_get s.F ops.toList t with h1 | ⟨h1, h2⟩
                · simp [opd, h1, VR]
                · rcases hI.tmps t with ⟨j, oj, rj, hj, hoj, hdj, hrj, hv⟩ | ⟨hno, hv⟩
                  · exfalso
                    rw [hpo] at hoj
                    exact h1 oj (by simpa using Array.mem_of_getElem? hoj) hdj
                  · simp only [opd] at hv ⊢
                    rw [h2]
                    exact hv.mono k1.ext
        exact main ops.size _ a0 w0 ρ0 none (by simp) (left_new _ _ (Nat.le_refl _)) hstart
def LeavesX (P : Program) (fn : Func) (tmps : Array Value) (R : Ending → World → Prop) : List Deferred → FrameMode → World → Prop
  | [], u, w => Leaves P fn tmps R [] u w
  | d :: ds, u, w => u ≠ .run ∧
      ((∃ r w', d.target = .collected r ∧ (Instr.takeDeferred r).run P w = .ok [] w' ∧ LeavesX P fn tmps R ds u w') ∨
       (∃ fv cap f args, d.target = .fn fv cap ∧ (invoke d.target d.args).run P w = .ok (.enter f args) w ∧
        CallsD P f args u w fun
          | .returned _, u', w' => LeavesX P fn tmps R ds (settle u') w'
          | .panicked chain, u', w' => LeavesX P fn tmps R ds (raised u' chain) w'
          | .outgrown, _, w' => R .outgrown w'))
theorem leavesX_steps {P : Program} {fn : Func} {tmps : Array Value} {R : Ending → World → Prop} : ∀ (ds : List Deferred) (u : FrameMode) (w : World) (fr : Frame)
    (cs : List Frame), fr.mode = u → fr.defers = ds → fr.tmps = tmps → P.funcs[fr.fn]? = some fn → fr.kind = .normal → LeavesX P fn tmps R ds u w →
    ∃ e w' fr', R e w' ∧ Comes P (lone fr cs w) (lone fr' cs w') e ∧ fr'.fn = fr.fn ∧ fr'.leaving P w' e := by
  intro ds
  induction ds with
  | nil => exact fun u w fr cs hu hd ht hf hk h => leaves_steps [] u w fr cs hu hd ht hf hk h
  | cons d ds ih =>
    intro u w fr cs hu hd ht hf hk h
    obtain ⟨hrun, h⟩ := h
    rcases h with ⟨r, w', htar, htake, hrest⟩ | ⟨fv, cap, f, args, htar, hinv, hcall⟩
    · have h1 := step_collected (cs := cs) (hu ▸ hrun) hd htar htake
      obtain ⟨e', w'', fr', hR', hs', hfn', hl'⟩ := ih u w' { fr with defers := [] ++ ds } cs hu rfl ht hf hk hrest
      exact ⟨e', w'', fr', hR', Comes.of_steps (.one h1) hs', hfn', hl'⟩
    · have h1 := step_defer (cs := cs) (hu ▸ hrun) hd htar hinv
      obtain ⟨e, u', w', frX, hR, hsteps, hkX, hgo⟩ := hcall { fr with defers := ds } cs hu
      cases e with
      | returned v =>
        have h2 := step_going_returned (c := { { fr with defers := ds } with mode := u' }) (cs := cs) hkX hgo
        obtain ⟨e', w'', fr', hR', hs', hfn', hl'⟩ := ih (settle u') w' { { { fr with defers := ds } with mode := u' } with mode := settle u' } cs rfl rfl ht hf hk hR
        exact ⟨e', w'', fr', hR', Comes.of_steps (.head h1 (Steps.trans hsteps (.one h2))) hs', hfn', hl'⟩
      | panicked chain =>
        have h2 := step_going_panicked (c := { { fr with defers := ds } with mode := u' }) (cs := cs) hgo
        obtain ⟨e', w'', fr', hR', hs', hfn', hl'⟩ := ih (raised u' chain) w' { { { fr with defers := ds } with mode := u' } with mode := raised u' chain } cs rfl rfl ht hf hk hR
        exact ⟨e', w'', fr', hR', Comes.of_steps (.head h1 (Steps.trans hsteps (.one h2))) hs', hfn', hl'⟩
      | outgrown => exact ⟨.outgrown, w', fr, hR, Outgrown.of_steps (.one h1) hsteps, rfl, trivial⟩
def bodyPostX (P : Program) (fn : Func) (R : Ending → World → Prop) : Exit → Act → World → Prop
  | .normal, a, w | .ret, a, w => LeavesX P fn a.tmps R a.defers .returning w
  | .panic chain, a, w => LeavesX P fn a.tmps R a.defers (.panicking chain) w
  | .outgrown, _, w => R .outgrown w
  | _, _, _ => False
theorem calls_of_wp_marks {P : Program} {f : FuncId} {fn : Func} {c : Code} {args : Array Value} {w : World} {R : Ending → World → Prop}
    (hf : P.funcs[f]? = some fn) (hb : fn.body = some c)
    (h : c.wp P (bodyPostX P fn R) { tmps := args ++ Array.replicate (fn.ntmps - args.size) undef, defers := [] } w) : Calls P f args w R := by
  intro cs
  let b : Frame := { (default : Frame) with fn := f, kind := .normal }
  have henter : Frame.enter P f args .normal = b.at { tmps := args ++ Array.replicate (fn.ntmps - args.size) undef, defers := [] } [.code c] := by
    simp [Frame.enter, Frame.at, hf, hb, b]
  obtain ⟨e, a', w', hq, harr⟩ := h b [] cs
  rw [← henter] at harr
  cases e with
  | normal =>
    obtain ⟨e', w'', fr', hR, hs, hfn, hl⟩ := leavesX_steps a'.defers .returning w' { b.at a' [] with mode := .returning } cs rfl rfl rfl hf rfl hq
    exact ⟨e', w'', fr', hR, Comes.of_steps (Steps.trans harr (.one step_end)) hs, hfn, hl⟩
  | ret =>
    obtain ⟨todo, hs₀⟩ := harr
    obtain ⟨e', w'', fr', hR, hs, hfn, hl⟩ := leavesX_steps a'.defers .returning w' { b.at a' todo with mode := .returning } cs rfl rfl rfl hf rfl hq
    exact ⟨e', w'', fr', hR, Comes.of_steps hs₀ hs, hfn, hl⟩
  | panic chain =>
    obtain ⟨todo, hs₀⟩ := harr
    obtain ⟨e', w'', fr', hR, hs, hfn, hl⟩ := leavesX_steps a'.defers (.panicking chain) w' { b.at a' todo with mode := .panicking chain } cs rfl rfl rfl hf rfl hq
    exact ⟨e', w'', fr', hR, Comes.of_steps hs₀ hs, hfn, hl⟩
  | exit id => exact hq.elim
  | goto l => exact hq.elim
  | outgrown => exact ⟨.outgrown, w', b, hq, harr.resolve_left (by simp [b]), rfl, trivial⟩
theorem Step.grown {E : Env} {base : Nat} {ρ : Place} {M : Mem} {w w' : World} (hc : Cons E base ρ M w) (hbase : base ≤ w.heap.size) (hb : RowKit.Below w.heap.size w w') : Step E base ρ w M ρ w' M where
  ext := .refl ρ
  cons := {
    blk := fun b x hx => by
      obtain ⟨l, hl, hbr⟩ := hc.blk b x hx
      exact ⟨l, hl, hbr.congr (hb.block _ hbr.here)⟩
    inj := hc.inj
    bound := hc.bound
    low := hc.low
    glob := hc.glob.mono fun k hk => hb.block k (Nat.lt_of_lt_of_le hk hbase)
    sym := hc.sym }
  frame k hk _ := hb.block k hk
  size := hb.size
  img b x l hb hl := .inr ⟨b, x, l, hb, hl, rfl⟩
  fresh _ _ h := .inl h
  next := Nat.le_refl _
  os := hb.os
  tape := hb.tape
  output := hb.output
inductive Ctx where
  | top
  | scope (b : Code)
  | loop (b : Code)
abbrev CodeF := Ctx → Nat → Code → St → Option (AExit × St)
def enterA (s : St) : Option (Nat × List AD × Mem) :=
  match s.rd with
  | none => some (s.M.next, [⟨0, [], [], some s.M.next⟩], ⟨s.M.next + 1, s.M.bl.set s.M.next (.defd true)⟩)
  | some b => match s.M.bl.get b with
    | some (.loop _ _ _ _ _ _ _ d) => some (d, [], s.M)
    | _ => none
def jumpA : Option Code → Option AExit
  | none => some .normal
  | some .ret => some .ret
  | some (.exit i) => some (.exit i)
  | some (.goto l) => some (.goto l)
  | _ => none
def rangeEnd (b : Nat) (mk : List AD) (s : St) : Option (AEnd × Mem) → Option (AExit × St)
  | some (.ret _, M') => match M'.bl.get b with
    | some (.loop st pend F n ps as bd d) => match st with
      | .busy => none
      | _ => match jumpA pend with
        | some x => some (x, { s with D := mk ++ s.D, M := ⟨M'.next, M'.bl.set b (.loop .exhausted pend F n ps as bd d)⟩ })
        | none => none
    | _ => none
  | some (.pan ch, M') => some (.panic ch, { s with D := mk ++ s.D, M := M' })
  | none => none
def codeTop (E : Env) (callF : CallF) (rc : CodeF) (n : Nat) (c : Code) (s : St) : Option (AExit × St) :=
  match c with
  | .skip => some (.normal, s)
  | .label _ => some (.normal, s)
  | .region _ ops true => drawA E callF n ops s
  | .region _ ops false => opsA E callF n ops (List.range ops.size) s
  | .seq a b => match rc .top n a s with
    | some (.normal, s1) => rc .top n b s1
    | r => r
  | .cond c a b => match opd s.F c with
    | .lit (.bool true) => rc .top n a s
    | .lit (.bool false) => rc .top n b s
    | _ => none
  | .block id b => match rc .top n b s with
    | some (.exit i, s1) => cond (Nat.beq i id) (some (.normal, s1)) (some (.exit i, s1))
    | r => r
  | .loop b => rc (.loop b) n b s
  | .scope b => rc (.scope b) n b s
  | .exit id => some (.exit id, s)
  | .goto l => some (.goto l, s)
  | .ret => some (.ret, s)
  | .rangeFunc g ps as bd => match closA (opd s.F g) with
    | some (f, first, cap) => match enterA s with
      | some (d, mk, M1) => rangeEnd M1.next mk s (callF (.fn f) (first ++ [.yld M1.next] ++ cap) ⟨M1.next + 1, M1.bl.set M1.next (.loop .ready none s.F n ps as bd d)⟩)
      | none => none
    | none => none
  | _ => none
def codeStep (E : Env) (callF : CallF) (rc : CodeF) (ctx : Ctx) (n : Nat) (c : Code) (s : St) : Option (AExit × St) :=
  match ctx with
  | .top => codeTop E callF rc n c s
  | .scope b => match rc .top n c s with
    | some (.goto l, s1) => match findLabel b l with
      | some rest => rc (.scope b) n rest s1
      | none => some (.goto l, s1)
    | r => r
  | .loop b => match rc .top n c s with
    | some (.normal, s1) => rc (.loop b) n b s1
    | r => r
def Ctx.items : Ctx → List Item
  | .top => []
  | .scope b => [.inScope b]
  | .loop b => [.inLoop b]
def wpC (P : Program) (rd : Option Nat) (ctx : Ctx) (c : Code) (Q : Exit → Act → World → Prop) (a : Act) (w : World) : Prop :=
  ∀ (b : Frame) (k : List Item) (cs : List Frame), b.roundOf = rd → ∃ e a' w', Q e a' w' ∧ ArrivesIn (Machine.fenced P (W rd)) P (lone (b.atR a (.code c :: (ctx.items ++ k))) cs w) b k cs e a' w'
theorem roomW (rd : Option Nat) (n : Nat) : (W rd).room n := fun _ h => by simp [W, Fence.wide] at h
theorem fencedW (P : Program) (rd : Option Nat) (m : Machine) : m.fenced P (W rd) := fenced_wide P m
theorem wpC_top {P : Program} {rd : Option Nat} {c : Code} {Q : Exit → Act → World → Prop} {a : Act} {w : World} : wpC P rd .top c Q a w ↔ c.wpIn (W rd) 0 P Q a w :=
  ⟨fun h b k cs hro _ _ => h b k cs hro, fun h b k cs hro => h b k cs hro trivial (roomW _ _)⟩
def SoundCode (E : Env) (base : Nat) (rc : CodeF) : Prop :=
  ∀ ctx n c s x s', rc ctx n c s = some (x, s') → ∀ (Q : Exit → Act → World → Prop) rd ρ a w, SR E base rd ρ s n a w → Behind E base rd ρ w s.M n x s' Q → wpC E.P rd ctx c Q a w
theorem SoundCode.top {E : Env} {base : Nat} {rc : CodeF} (hc : SoundCode E base rc) {n : Nat} {c : Code} {s s' : St} {x : AExit} (h : rc .top n c s = some (x, s')) (Q : Exit → Act → World → Prop) {rd : Option Nat} (ρ : Place) (a : Act) (w : World)
    (hr : SR E base rd ρ s n a w) (hb : Behind E base rd ρ w s.M n x s' Q) : c.wpIn (W rd) 0 E.P Q a w := wpC_top.1 (hc .top n c s x s' h Q rd ρ a w hr hb)
section
variable {P : Program} {b : Frame} {a : Act} {k : List Item} {cs : List Frame} {w : World}
theorem stepR_scope {c : Code} : step P (lone (b.atR a (.code (.scope c) :: k)) cs w) = .next (lone (b.atR a (.code c :: .inScope c :: k)) cs w) :=
  step_lone_go (by simp [stepG, stepG.exec, Frame.atR])
theorem stepR_inScope {c : Code} : step P (lone (b.atR a (.inScope c :: k)) cs w) = .next (lone (b.atR a k) cs w) :=
  step_lone_go (by simp [stepG, stepG.exec, Frame.atR])
end
theorem wp_loop_in {P : Program} {rd : Option Nat} {b : Code} {Q : Exit → Act → World → Prop} {a : Act} {w : World} (h : wpC P rd (.loop b) b Q a w) : (Code.loop b).wpIn (W rd) 0 P Q a w := by
  intro fr k cs hro _ _
  obtain ⟨e, a', w', q, r⟩ := h fr k cs hro
  exact ⟨e, a', w', q, .of_steps (.one (fencedW _ _ _) stepR_loop) r⟩
theorem wp_scope_in {P : Program} {rd : Option Nat} {b : Code} {Q : Exit → Act → World → Prop} {a : Act} {w : World} (h : wpC P rd (.scope b) b Q a w) : (Code.scope b).wpIn (W rd) 0 P Q a w := by
  intro fr k cs hro _ _
  obtain ⟨e, a', w', q, r⟩ := h fr k cs hro
  exact ⟨e, a', w', q, .of_steps (.one (fencedW _ _ _) stepR_scope) r⟩
theorem wpC_loop {P : Program} {rd : Option Nat} {body c : Code} {Q : Exit → Act → World → Prop} {a : Act} {w : World} (h : c.wpIn (W rd) 0 P (Exit.then (wpC P rd (.loop body) body Q) Q) a w) : wpC P rd (.loop body) c Q a w := by
  intro b k cs hro
  obtain ⟨e, a₁, w₁, hq, harr⟩ := h b (.inLoop body :: k) cs hro trivial (roomW _ _)
  cases e with
  | normal =>
    obtain ⟨e₂, a₂, w₂, hq₂, harr₂⟩ := hq b k cs hro
    exact ⟨e₂, a₂, w₂, hq₂, .of_steps (StepsIn.trans harr (.one (fencedW _ _ _) stepR_inLoop)) harr₂⟩
  | exit id => exact ⟨_, a₁, w₁, hq, .pass (x := .inLoop body) rfl (fun _ _ => .inl (by simp)) harr⟩
  | goto l => exact ⟨_, a₁, w₁, hq, .pass (x := .inLoop body) rfl (fun _ _ => .inl (by simp)) harr⟩
  | ret => exact ⟨_, a₁, w₁, hq, .pass (x := .inLoop body) rfl (fun _ _ => .inl (by simp)) harr⟩
  | panic ch => exact ⟨_, a₁, w₁, hq, .pass (x := .inLoop body) rfl (fun _ _ => .inl (by simp)) harr⟩
  | outgrown => exact ⟨_, a₁, w₁, hq, .pass (x := .inLoop body) rfl (fun _ _ => .inl (by simp)) harr⟩
def scopeQ (P : Program) (rd : Option Nat) (body : Code) (Q : Exit → Act → World → Prop) : Exit → Act → World → Prop
  | .goto l, a, w => match findLabel body l with
    | some rest => wpC P rd (.scope body) rest Q a w
    | none => Q (.goto l) a w
  | e, a, w => Q e a w
theorem wpC_scope {P : Program} {rd : Option Nat} {body c : Code} {Q : Exit → Act → World → Prop} {a : Act} {w : World} (h : c.wpIn (W rd) 0 P (scopeQ P rd body Q) a w) : wpC P rd (.scope body) c Q a w := by
  intro b k cs hro
  obtain ⟨e, a₁, w₁, hq, harr⟩ := h b (.inScope body :: k) cs hro trivial (roomW _ _)
  cases e with
  | normal => exact ⟨.normal, a₁, w₁, hq, StepsIn.trans harr (.one (fencedW _ _ _) stepR_inScope)⟩
  | exit id => exact ⟨.exit id, a₁, w₁, hq, fun k' hk => harr.1 k' (by simp [exitTo, hk]), fun h1 hk => harr.2 h1 (by simp [exitTo, hk])⟩
  | goto l =>
    simp only [scopeQ] at hq
    split at hq
    · rename_i rest hrest
      obtain ⟨e₂, a₂, w₂, hq₂, harr₂⟩ := hq b k cs hro
      exact ⟨e₂, a₂, w₂, hq₂, .of_steps (harr.1 (.code rest :: .inScope body :: k) (by simp [gotoIn, hrest])) harr₂⟩
    · rename_i hrest
      exact ⟨.goto l, a₁, w₁, hq, fun k' hk => harr.1 k' (by simp [gotoIn, hrest, hk]), fun h1 hk => harr.2 h1 (by simp [gotoIn, hrest, hk])⟩
  | ret => exact ⟨.ret, a₁, w₁, hq, harr⟩
  | panic ch => exact ⟨.panic ch, a₁, w₁, hq, harr⟩
  | outgrown => exact ⟨.outgrown, a₁, w₁, hq, harr⟩
theorem DR.append {ρ : Place} : ∀ {a b : List AD} {x y : List Deferred}, DR ρ a x → DR ρ b y → DR ρ (a ++ b) (x ++ y)
  | [], _, _, _, h, k => by simp only [DR] at h; subst h; exact k
  | d :: r, _, _, _, h, k => by
    simp only [DR] at h
    obtain ⟨x, xs, rfl, h1, h2⟩ := h
    simp only [List.cons_append, DR]
    exact ⟨x, _, rfl, h1, DR.append h2 k⟩
theorem loop_at {E : Env} {base : Nat} {ρ : Place} {M : Mem} {w : World} (hc : Cons E base ρ M w) {b : Nat} {l : Loc} (hl : ρ b = some l) {st : LoopState} {pend : Option Code} {F : T AV} {n : Nat} {ps : Array Tmp} {as bd : Code} {d : Nat}
    (h : M.bl.get b = some (.loop st pend F n ps as bd d)) : l.off = 0 ∧ ∃ fn tmps ld, ρ d = some ld ∧ LR ρ F n tmps ∧
      w.heap[l.blk]? = some (.loop { state := st, pending := pend, fn := fn, tmps := tmps, params := ps, assign := as, body := bd, defers := ld.blk }) := by
  obtain ⟨l', hl', h0, fn, tmps, ld, h1, h2, h3⟩ := hc.blk b _ h
  rw [hl, Option.some.injEq] at hl'
  subst hl'
  exact ⟨h0, fn, tmps, ld, h1, h2, h3⟩
theorem loop_over {E : Env} {base : Nat} {ρ : Place} {M : Mem} {w : World} (hc : Cons E base ρ M w) {b : Nat} {l : Loc} (hl : ρ b = some l) {st : LoopState} {pend : Option Code} {F : T AV} {n : Nat} {ps : Array Tmp} {as bd : Code} {d : Nat}
    (h : M.bl.get b = some (.loop st pend F n ps as bd d)) (st' : LoopState) (pend' : Option Code) : ∃ fn tmps ld, 
      w.heap[l.blk]? = some (.loop { state := st, pending := pend, fn := fn, tmps := tmps, params := ps, assign := as, body := bd, defers := ld }) ∧
      Step E base ρ w M ρ { w with heap := w.heap.setIfInBounds l.blk (.loop { state := st', pending := pend', fn := fn, tmps := tmps, params := ps, assign := as, body := bd, defers := ld }) } ⟨M.next, M.bl.set b (.loop st' pend' F n ps as bd d)⟩ := by
  obtain ⟨h0, fn, tmps, ld, h1, h2, h3⟩ := loop_at hc hl h
  refine ⟨fn, tmps, ld.blk, h3, ?_⟩
  exact Step.over hc h hl (by simp) (fun i hi => by simp only []; rw [Array.getElem?_setIfInBounds_ne (fun e => hi e.symm)]) ⟨h0, fn, tmps, ld, h1, h2, setObj_at h3⟩ rfl rfl rfl
theorem enterA_ok {E : Env} {base : Nat} {rd : Option Nat} {ρ : Place} {s : St} {n : Nat} {a : Act} {w : World} (hr : SR E base rd ρ s n a w) {d : Nat} {mk : List AD} {M1 : Mem} (h : enterA s = some (d, mk, M1)) :
    ∃ ρ1 w1 ld marks, Step E base ρ w s.M ρ1 w1 M1 ∧ ρ1 d = some ld ∧ DR ρ1 mk marks ∧
      ∀ fn tmps ps as bd, (Instr.enterLoop fn tmps ps as bd rd).run E.P w = .ok (w1.heap.size, marks) (w1.alloc (.loop { state := .ready, pending := none, fn := fn, tmps := tmps, params := ps, assign := as, body := bd, defers := ld.blk })) := by
  unfold enterA at h
  have hrd := hr.rd
  split at h
  · rename_i hs
    rw [hs] at hrd
    cases rd with
    | some l => exact hrd.elim
    | none =>
      simp only [Option.some.injEq, Prod.mk.injEq] at h
      obtain ⟨rfl, rfl, rfl⟩ := h
      have hnone : ρ s.M.next = none := hr.cons.none
      refine ⟨ρ.upd s.M.next ⟨w.heap.size, 0, 0, undef⟩, w.alloc (.deferred (some [])), ⟨w.heap.size, 0, 0, undef⟩, [{ target := .collected w.heap.size, args := #[] }],
        Step.push hr.cons hr.base hnone (Nat.le_succ _) (Nat.lt_succ_self _) (Nat.le_refl _) rfl (alloc_old w _).1 (alloc_old w _).2 ⟨rfl, alloc_new w _⟩ rfl rfl rfl,
        Place.upd_same _ _ _, ?_, fun fn tmps ps as bd => ?_⟩
      · simp only [DR]
        exact ⟨_, [], rfl, ⟨⟨w.heap.size, 0, 0, undef⟩, Place.upd_same _ _ _, rfl⟩, rfl⟩
      · simp [Instr.enterLoop]
  · rename_i b hs
    rw [hs] at hrd
    split at h
    · rename_i hb
      simp only [Option.some.injEq, Prod.mk.injEq] at h
      obtain ⟨rfl, rfl, rfl⟩ := h
      cases rd with
      | none => exact hrd.elim
      | some l0 =>
        obtain ⟨lc, h1, rfl⟩ := hrd
        obtain ⟨_, fn0, tmps0, ld, k1, k2, k3⟩ := loop_at hr.cons h1 hb
        refine ⟨ρ, w, ld, [], Step.refl hr.cons, k1, rfl, fun fn tmps ps as bd => ?_⟩
        simp [Instr.enterLoop, Instr.getLoop, getObj, Sem.run, k3]
    · cases h
def afterJump (P : Program) (rd : Option Nat) (Q : Exit → Act → World → Prop) (a : Act) (w : World) : Option Code → Prop
  | none => Q .normal a w
  | some c => c.wpIn (W rd) 0 P Q a w
theorem jumpA_ok {P : Program} {rd : Option Nat} {ρ : Place} {pend : Option Code} {x : AExit} (h : jumpA pend = some x) {Q : Exit → Act → World → Prop} {a : Act} {w : World} (hq : ∀ e, XR ρ x e → Q e a w) :
    afterJump P rd Q a w pend := by
  unfold jumpA at h
  split at h
  · simp only [Option.some.injEq] at h; subst h
    exact hq .normal trivial
  · simp only [Option.some.injEq] at h; subst h
    exact wpIn_ret (hq .ret trivial)
  · simp only [Option.some.injEq] at h; subst h
    exact wpIn_exit (hq (.exit _) rfl)
  · simp only [Option.some.injEq] at h; subst h
    exact wpIn_goto (hq (.goto _) rfl)
  · cases h
theorem range_ok {E : Env} (OK : E.OK) {base : Nat} {rd : Option Nat} {callF : CallF} (hs : SoundCall E base callF) (hent : ∀ f args M x, callF (.fn f) args M = some x → ∃ fn, E.fn.get f = some fn)
    {n : Nat} {g : Operand} {ps : Array Tmp} {as bd : Code} {s s' : St} {x : AExit} {f : FuncId} {first cap : List AV} (hg : closA (opd s.F g) = some (f, first, cap)) {d : Nat} {mk : List AD} {M1 : Mem} (he : enterA s = some (d, mk, M1))
    (h : rangeEnd M1.next mk s (callF (.fn f) (first ++ [.yld M1.next] ++ cap) ⟨M1.next + 1, M1.bl.set M1.next (.loop .ready none s.F n ps as bd d)⟩) = some (x, s'))
    {Q : Exit → Act → World → Prop} {ρ : Place} {a : Act} {w : World} (hr : SR E base rd ρ s n a w) (hb : Behind E base rd ρ w s.M n x s' Q) : (Code.rangeFunc g ps as bd).wpIn (W rd) 0 E.P Q a w := by
  obtain ⟨fs, cs, e, h1, h2⟩ := closA_ok (hr.fr.eval g) hg
  obtain ⟨ρ1, w1, ld, marks, st1, hld, hmk, hrun⟩ := enterA_ok hr he
  have hnone : ρ1 M1.next = none := st1.cons.none
  have hb1 : base ≤ w1.heap.size := Nat.le_trans hr.base st1.size
  refine wpIn_rangeFunc fun fn0 _ => ?_
  have hrun := hrun fn0 a.tmps ps as bd
  generalize hrec : ({ state := .ready, pending := none, fn := fn0, tmps := a.tmps, params := ps, assign := as, body := bd, defers := ld.blk } : Loop) = rec0 at hrun
  have st2 : Step E base ρ1 w1 M1 (ρ1.upd M1.next ⟨w1.heap.size, 0, 0, undef⟩) (w1.alloc (.loop rec0)) ⟨M1.next + 1, M1.bl.set M1.next (.loop .ready none s.F n ps as bd d)⟩ := by
    refine Step.push st1.cons hb1 hnone (Nat.le_succ _) (Nat.lt_succ_self _) (Nat.le_refl _) rfl (alloc_old w1 _).1 (alloc_old w1 _).2 ⟨rfl, fn0, a.tmps, ld, Place.le_upd hnone _ _ hld, ⟨hr.fr.size, fun t => ?_⟩, ?_⟩ rfl rfl rfl
    · exact ((hr.fr.get t).mono st1.ext).mono (Place.le_upd hnone)
    · rw [hrec]; exact alloc_new w1 _
  have hvals : VRs (ρ1.upd M1.next ⟨w1.heap.size, 0, 0, undef⟩) (first ++ [.yld M1.next] ++ cap) (fs ++ #[Value.func (.yield w1.heap.size) #[] #[]] ++ cs).toList := by
    have k1 := VRs.mono st2.ext _ _ (VRs.mono st1.ext _ _ h1)
    have k2 := VRs.mono st2.ext _ _ (VRs.mono st1.ext _ _ h2)
    have k3 : VRs (ρ1.upd M1.next ⟨w1.heap.size, 0, 0, undef⟩) [.yld M1.next] [Value.func (.yield w1.heap.size) #[] #[]] := by
      simp only [VRs, VR]
      exact ⟨_, [], rfl, ⟨_, Place.upd_same _ _ _, rfl⟩, rfl⟩
    simpa using (k1.append (k3.append k2))
  obtain ⟨y, M', hv⟩ : ∃ y M', callF (.fn f) (first ++ [.yld M1.next] ++ cap) ⟨M1.next + 1, M1.bl.set M1.next (.loop .ready none s.F n ps as bd d)⟩ = some (y, M') := by
    cases hq : callF (.fn f) (first ++ [.yld M1.next] ++ cap) ⟨M1.next + 1, M1.bl.set M1.next (.loop .ready none s.F n ps as bd d)⟩ with
    | none => rw [hq] at h; simp [rangeEnd] at h
    | some z => exact ⟨z.1, z.2, rfl⟩
  rw [hv] at h
  obtain ⟨fn, hfn⟩ := hent f _ _ _ hv
  have hcall := hs (.fn f) _ _ _ M' hv _ (w1.alloc (.loop rec0)) _ st2.cons (Nat.le_trans hb1 st2.size) hvals
  rw [Array.toArray_toList] at hcall
  have hin : (invoke (.fn (.func f) cs) (fs ++ #[Value.func (.yield w1.heap.size) #[] #[]])).run E.P (w1.alloc (.loop rec0)) = .ok (.enter f (fs ++ #[Value.func (.yield w1.heap.size) #[] #[]] ++ cs)) (w1.alloc (.loop rec0)) := by
    simp only [invoke]
    exact (OK.fn f fn hfn).2 _ _
  refine ⟨w1.heap.size, marks, w1.alloc (.loop rec0), { target := .fn (.func f) cs, args := fs ++ #[Value.func (.yield w1.heap.size) #[] #[]] }, w1.alloc (.loop rec0), f, fs ++ #[Value.func (.yield w1.heap.size) #[] #[]] ++ cs, w1.alloc (.loop rec0),
    hrun, ?_, fun _ _ => trivial, hin, fun h => by simp [W, Fence.wide] at h, ?_⟩
  · simp only [resolve, e, Deferred.ofValue, Sem.run_pure]
    simp [Act.eval]
  · refine callsIn_wide.2 (Calls.mono hcall fun e' w' he' => ?_)
    obtain ⟨ρ', k1, k2⟩ := he'
    have hst := st1.trans (st2.trans k1)
    have hfrA : ∀ ρ2, ρ.le ρ2 → FR ρ2 s.F n { a with defers := marks ++ a.defers } := fun ρ2 hle => ⟨(hr.fr.mono hle).size, (hr.fr.mono hle).get⟩
    have hdrA : DR ρ' (mk ++ s.D) (marks ++ a.defers) := (hmk.mono (st2.ext.trans k1.ext)).append (hr.dr.mono hst.ext)
    cases y with
    | ret v =>
      cases e' with
      | returned z =>
        simp only [rangeEnd] at h
        split at h
        · rename_i st pend F' n' ps' as' bd' d' hloop
          have hl : ρ' M1.next = some ⟨w1.heap.size, 0, 0, undef⟩ := k1.ext _ _ (Place.upd_same _ _ _)
          obtain ⟨fn', tmps', ld', k3, k4⟩ := loop_over k1.cons hl hloop .exhausted pend
          have hx : st ≠ .busy ∧ ∃ y, jumpA pend = some y ∧ (y, ({ s with D := mk ++ s.D, M := ⟨M'.next, M'.bl.set M1.next (.loop .exhausted pend F' n' ps' as' bd' d')⟩ } : St)) = (x, s') := by
            cases hj : jumpA pend with
            | none => rw [hj] at h; cases st <;> simp at h
            | some y => rw [hj] at h; cases st <;> simp only [Option.some.injEq, reduceCtorEq] at h <;> exact ⟨by simp, y, rfl, h⟩
          obtain ⟨hbusy, y, hj, hys⟩ := hx
          simp only [Prod.mk.injEq] at hys
          obtain ⟨rfl, rfl⟩ := hys
          have hj2 : ∀ w4, (∀ e3, XR ρ' y e3 → Q e3 { a with defers := marks ++ a.defers } w4) → afterJump E.P rd Q { a with defers := marks ++ a.defers } w4 pend := fun w4 hq => jumpA_ok (ρ := ρ') hj hq
          refine ⟨pend, { w' with heap := w'.heap.setIfInBounds w1.heap.size (.loop { state := .exhausted, pending := pend, fn := fn', tmps := tmps', params := ps', assign := as', body := bd', defers := ld' }) }, ?_, ?_⟩
          rotate_left
          · have hst' := hst.trans k4
            have := hj2 _ fun e3 hx3 => hb ρ' _ _ e3 hst' ⟨hst'.cons, hfrA _ hst'.ext, hdrA, Nat.le_trans hr.base hst'.size, hr.rd.mono hst'.ext⟩ hx3
            cases pend <;> exact this
          · simp [Instr.endLoop, Instr.getLoop, getObj, setObj, Sem.run, k3]
            exact fun h => absurd h hbusy
        · cases h
      | _ => exact k2.elim
    | pan ch =>
      cases e' with
      | panicked c =>
        simp only [rangeEnd, Option.some.injEq, Prod.mk.injEq] at h
        obtain ⟨rfl, rfl⟩ := h
        exact hb ρ' _ _ (.panic c) hst ⟨hst.cons, hfrA _ hst.ext, hdrA, Nat.le_trans hr.base hst.size, hr.rd.mono hst.ext⟩ k2
      | _ => exact k2.elim
theorem codeTop_ok {E : Env} (OK : E.OK) {base : Nat} {rd : Option Nat} {callF : CallF} (hs : SoundCall E base callF) (hent : ∀ f args M x, callF (.fn f) args M = some x → ∃ fn, E.fn.get f = some fn) {rc : CodeF} (hc : SoundCode E base rc)
    {n : Nat} {c : Code} {s s' : St} {x : AExit} (h : codeTop E callF rc n c s = some (x, s')) {Q : Exit → Act → World → Prop} {ρ : Place} {a : Act} {w : World} (hr : SR E base rd ρ s n a w) (hb : Behind E base rd ρ w s.M n x s' Q) : c.wpIn (W rd) 0 E.P Q a w := by
  unfold codeTop at h
  split at h
  · simp only [Option.some.injEq, Prod.mk.injEq] at h
    obtain ⟨rfl, rfl⟩ := h
    exact wpIn_skip (hb ρ a w .normal (Step.refl hr.cons) hr trivial)
  · simp only [Option.some.injEq, Prod.mk.injEq] at h
    obtain ⟨rfl, rfl⟩ := h
    exact wpIn_label (hb ρ a w .normal (Step.refl hr.cons) hr trivial)
  · -- an open region
    refine wpIn_region_any OK.mixed ?_
    have hst : Step E base ρ w s.M ρ { w with drawn := w.drawn + 1 } s.M := Step.drawn hr.cons rfl rfl rfl rfl
    exact drawA_ok OK hs hent h ⟨hst.cons, hr.fr, hr.dr, hr.base, hr.rd⟩ (hb.step hst)
  · exact wpIn_region (opsA_ok OK hs hent _ s x s' h ρ a w hr hb)
  · rename_i c1 c2
    refine wpIn_seq ?_
    split at h
    · rename_i s1 h1
      refine hc.top h1 _ ρ a w hr fun ρ' a' w' e k1 k2 k3 => ?_
      cases e with
      | normal => exact hc.top h Q ρ' a' w' k2 (hb.step k1)
      | _ => exact k3.elim
    · rename_i hne
      refine hc.top h _ ρ a w hr fun ρ' a' w' e k1 k2 k3 => ?_
      have := hb ρ' a' w' e k1 k2 k3
      cases e with
      | normal =>
        cases x with
        | normal => exact absurd h (hne s')
        | _ => exact k3.elim
      | _ => exact this
  · rename_i cc c1 c2
    have hv := hr.fr.eval cc
    split at h
    · rename_i ht
      rw [ht] at hv
      exact wpIn_cond_true hv (hc.top h Q ρ a w hr hb)
    · rename_i ht
      rw [ht] at hv
      exact wpIn_cond_false hv (hc.top h Q ρ a w hr hb)
    · cases h
  · rename_i id c1
    refine wpIn_block ?_
    split at h
    · rename_i i s1 h1
      refine hc.top h1 _ ρ a w hr fun ρ' a' w' e k1 k2 k3 => ?_
      cases e with
      | exit j =>
        have hij : i = j := k3
        subst hij
        cases hbq : Nat.beq i id with
        | true =>
          rw [hbq] at h
          simp only [cond_true, Option.some.injEq, Prod.mk.injEq] at h
          obtain ⟨rfl, rfl⟩ := h
          have : i = id := Nat.eq_of_beq_eq_true hbq
          simp only [Exit.inBlock, this, if_true]
          exact hb ρ' a' w' .normal k1 k2 trivial
        | false =>
          rw [hbq] at h
          simp only [cond_false, Option.some.injEq, Prod.mk.injEq] at h
          obtain ⟨rfl, rfl⟩ := h
          have : i ≠ id := fun e => by subst e; simp at hbq
          simp only [Exit.inBlock, this, if_false]
          exact hb ρ' a' w' (.exit i) k1 k2 rfl
      | _ => exact k3.elim
    · rename_i hne
      refine hc.top h _ ρ a w hr fun ρ' a' w' e k1 k2 k3 => ?_
      have := hb ρ' a' w' e k1 k2 k3
      cases e with
      | exit j =>
        cases x with
        | exit i => exact absurd h (hne i s')
        | _ => exact k3.elim
      | _ => exact this
  · rename_i c1
    exact wp_loop_in (hc (.loop c1) n c1 s x s' h Q rd ρ a w hr hb)
  · rename_i c1
    exact wp_scope_in (hc (.scope c1) n c1 s x s' h Q rd ρ a w hr hb)
  · simp only [Option.some.injEq, Prod.mk.injEq] at h
    obtain ⟨rfl, rfl⟩ := h
    exact wpIn_exit (hb ρ a w (.exit _) (Step.refl hr.cons) hr rfl)
  · simp only [Option.some.injEq, Prod.mk.injEq] at h
    obtain ⟨rfl, rfl⟩ := h
    exact wpIn_goto (hb ρ a w (.goto _) (Step.refl hr.cons) hr rfl)
  · simp only [Option.some.injEq, Prod.mk.injEq] at h
    obtain ⟨rfl, rfl⟩ := h
    exact wpIn_ret (hb ρ a w .ret (Step.refl hr.cons) hr trivial)
  · -- a range over a function
    split at h
    · rename_i f first cap hg
      split at h
      · rename_i d mk M1 he
        exact range_ok OK hs hent hg he h hr hb
      · cases h
    · cases h
  · cases h
theorem codeStep_ok {E : Env} (OK : E.OK) {base : Nat} {callF : CallF} (hs : SoundCall E base callF) (hent : ∀ f args M x, callF (.fn f) args M = some x → ∃ fn, E.fn.get f = some fn) {rc : CodeF} (hc : SoundCode E base rc) :
    SoundCode E base (codeStep E callF rc) := by
  intro ctx n c s x s' h Q rd ρ a w hr hb
  cases ctx with
  | top => exact wpC_top.2 (codeTop_ok OK hs hent hc h hr hb)
  | scope b =>
    simp only [codeStep] at h
    refine wpC_scope ?_
    split at h
    · rename_i l s1 h1
      refine hc.top h1 _ ρ a w hr fun ρ' a' w' e k1 k2 k3 => ?_
      cases e with
      | goto j =>
        have hij : l = j := k3
        subst hij
        split at h
        · rename_i rest hrest
          simp only [scopeQ, hrest]
          exact hc (.scope b) n rest s1 x s' h Q rd ρ' a' w' k2 (hb.step k1)
        · rename_i hrest
          simp only [Option.some.injEq, Prod.mk.injEq] at h
          obtain ⟨rfl, rfl⟩ := h
          simp only [scopeQ, hrest]
          exact hb ρ' a' w' (.goto l) k1 k2 rfl
      | _ => exact k3.elim
    · rename_i hne
      refine hc.top h _ ρ a w hr fun ρ' a' w' e k1 k2 k3 => ?_
      have := hb ρ' a' w' e k1 k2 k3
      cases e with
      | goto j =>
        cases x with
        | goto i => exact absurd h (hne i s')
        | _ => exact k3.elim
      | _ => exact this
  | loop b =>
    simp only [codeStep] at h
    refine wpC_loop ?_
    split at h
    · rename_i s1 h1
      refine hc.top h1 _ ρ a w hr fun ρ' a' w' e k1 k2 k3 => ?_
      cases e with
      | normal => exact hc (.loop b) n b s1 x s' h Q rd ρ' a' w' k2 (hb.step k1)
      | _ => exact k3.elim
    · rename_i hne
      refine hc.top h _ ρ a w hr fun ρ' a' w' e k1 k2 k3 => ?_
      have := hb ρ' a' w' e k1 k2 k3
      cases e with
      | normal =>
        cases x with
        | normal => exact absurd h (hne s')
        | _ => exact k3.elim
      | _ => exact this
def setAll (F : T AV) (n : Nat) : List Tmp → List AV → Option (T AV)
  | [], [] => some F
  | t :: ts, v :: vs => match put F n (some t) v with
    | some F' => setAll F' n ts vs
    | none => none
  | _, _ => none
def endA (b : Nat) (pend : Option Code) (M : Mem) : Option (AEnd × Mem) :=
  match M.bl.get b with
  | some (.loop _ _ F n ps as bd d) => some (.ret (.lit (.bool pend.isNone)), ⟨M.next, M.bl.set b (.loop (if pend.isNone then .ready else .done) pend F n ps as bd d)⟩)
  | _ => none
def roundStep (rc : CodeF) (b : Nat) (args : List AV) (M : Mem) : Option (AEnd × Mem) :=
  match M.bl.get b with
  | some (.loop _ _ F n ps as bd _) => match setAll F n ps.toList args with
    | some F' => match rc .top n as ⟨F', [], M, some b⟩ with
      | some (.normal, s1) => match s1.M.bl.get b with
        | some (.loop .ready pend F2 n2 ps2 as2 bd2 d2) => match rc .top n bd { s1 with M := ⟨s1.M.next, s1.M.bl.set b (.loop .busy pend F2 n2 ps2 as2 bd2 d2)⟩ } with
          | some (.normal, s2) => endA b none s2.M
          | some (.ret, s2) => endA b (some .ret) s2.M
          | some (.exit i, s2) => endA b (some (.exit i)) s2.M
          | some (.goto l, s2) => endA b (some (.goto l)) s2.M
          | _ => none
        | _ => none
      | _ => none
    | none => none
  | _ => none
theorem setAll_ok {ρ : Place} {n : Nat} : ∀ (ts : List Tmp) (F F' : T AV) (args : List AV) (vals : List Value) (a : Act), FR ρ F n a → VRs ρ args vals → setAll F n ts args = some F' →
    ts.length = vals.length ∧ FR ρ F' n { a with tmps := (ts.zip vals).foldl (fun (tmps : Array Value) (x : Tmp × Value) => tmps.setIfInBounds x.1 x.2) a.tmps }
  | [], F, F', [], vals, a, hf, hv, h => by
    simp only [setAll, Option.some.injEq] at h
    subst h
    simp only [VRs] at hv
    subst hv
    exact ⟨rfl, hf⟩
  | [], _, _, _ :: _, _, _, _, _, h => by simp [setAll] at h
  | _ :: _, _, _, [], _, _, _, _, h => by simp [setAll] at h
  | t :: ts, F, F', v :: vs, vals, a, hf, hv, h => by
    simp only [setAll] at h
    split at h
    · rename_i F1 hF1
      simp only [VRs] at hv
      obtain ⟨x, xs, rfl, h1, h2⟩ := hv
      have hf1 := hf.put h1 hF1
      obtain ⟨k1, k2⟩ := setAll_ok ts F1 F' vs xs _ hf1 h2 h
      refine ⟨by simp [k1], ?_⟩
      exact ⟨k2.size, k2.get⟩
    · cases h
theorem endA_ok {E : Env} {base : Nat} {ρ : Place} {M M' : Mem} {w : World} (hc : Cons E base ρ M w) {b : Nat} {l : Loc} (hl : ρ b = some l) {pend : Option Code} {x : AEnd} (h : endA b pend M = some (x, M')) :
    ∃ v w', (Instr.endRound l.blk pend).run E.P w = .ok v w' ∧ Step E base ρ w M ρ w' M' ∧ EndR ρ x (.returned v) := by
  unfold endA at h
  split at h
  · rename_i st pend0 F n ps as bd d hb
    simp only [Option.some.injEq, Prod.mk.injEq] at h
    obtain ⟨rfl, rfl⟩ := h
    obtain ⟨fn, tmps, ld, h1, h2⟩ := loop_over hc hl hb (if pend.isNone then .ready else .done) pend
    refine ⟨.bool pend.isNone, _, ?_, h2, by simp only [EndR, VR]⟩
    simp [Instr.endRound, Instr.getLoop, getObj, setObj, Sem.run, h1]
  · cases h
theorem roundStep_ok {E : Env} {base : Nat} {rc : CodeF} (hc : SoundCode E base rc) {b : Nat} {args : List AV} {M M' : Mem} {x : AEnd} (h : roundStep rc b args M = some (x, M')) {ρ : Place} {w : World} {vals : List Value}
    (hcons : Cons E base ρ M w) (hbase : base ≤ w.heap.size) (hargs : VRs ρ args vals) : CalOK E.P ρ (.yld b) vals.toArray w fun e w' => ∃ ρ', Step E base ρ w M ρ' w' M' ∧ EndR ρ' x e := by
  intro l hl
  unfold roundStep at h
  split at h
  · rename_i st0 pend0 F n ps as bd d0 hb
    obtain ⟨h0, fn, tmps, ld, k1, k2, k3⟩ := loop_at hcons hl hb
    split at h
    · rename_i F' hF'
      split at h
      · rename_i s1 hs1
        split at h
        · rename_i pend F2 n2 ps2 as2 bd2 d2 hb1
          obtain ⟨hlen, hfr⟩ := setAll_ok ps.toList F F' args vals { tmps := tmps, defers := [] } ⟨k2.1, k2.2⟩ hargs hF'
          have hsz : vals.toArray.size = ps.size := by simpa using hlen.symm
          refine ⟨fn, (ps.toList.zip vals).foldl (fun (tmps : Array Value) (x : Tmp × Value) => tmps.setIfInBounds x.1 x.2) tmps, as, bd, ?_, ?_⟩
          · have hz : (ps.zip vals.toArray).size = ps.size := by rw [Array.size_zip, hsz, Nat.min_self]
            have hfold : (ps.zip vals.toArray).foldl (fun (tmps : Array Value) (x : Tmp × Value) => tmps.setIfInBounds x.1 x.2) tmps = (ps.toList.zip vals).foldl (fun (tmps : Array Value) (x : Tmp × Value) => tmps.setIfInBounds x.1 x.2) tmps := by
              rw [← Array.foldl_toList, Array.toList_zip]
            rw [← hfold]
            simp [Instr.yield, Instr.getLoop, getObj, Sem.run, k3, hsz]
          · refine roundIn_of_wpIn trivial ?_
            have hsr : SR E base (some l.blk) ρ ⟨F', [], M, some b⟩ n { tmps := (ps.toList.zip vals).foldl (fun (tmps : Array Value) (x : Tmp × Value) => tmps.setIfInBounds x.1 x.2) tmps, defers := [] } w :=
              ⟨hcons, hfr, rfl, hbase, l, hl, rfl⟩
            refine hc.top (rd := some l.blk) hs1 _ ρ _ w hsr fun ρ1 a1 w1 e j1 j2 j3 => ?_
            cases e with
            | normal =>
              have hl1 : ρ1 b = some l := j1.ext _ _ hl
              obtain ⟨fn1, tmps1, ld1, m1, m2⟩ := loop_over j2.cons hl1 hb1 .busy pend
              generalize hw2 : ({ w1 with heap := w1.heap.setIfInBounds l.blk (.loop { state := .busy, pending := pend, fn := fn1, tmps := tmps1, params := ps2, assign := as2, body := bd2, defers := ld1 }) } : World) = w2 at m2
              refine ⟨w2, ?_, ?_⟩
              rotate_left
              · have hsr2 : SR E base (some l.blk) ρ1 { s1 with M := ⟨s1.M.next, s1.M.bl.set b (.loop .busy pend F2 n2 ps2 as2 bd2 d2)⟩ } n a1 w2 :=
                  ⟨m2.cons, j2.fr, j2.dr, Nat.le_trans j2.base m2.size, j2.rd⟩
                have fin : ∀ (y : AExit) (s2 : St) (pe : Option Code), rc .top n bd { s1 with M := ⟨s1.M.next, s1.M.bl.set b (.loop .busy pend F2 n2 ps2 as2 bd2 d2)⟩ } = some (y, s2) → endA b pe s2.M = some (x, M') →
                    (∀ ρ2 e, XR ρ2 y e → ∀ a2 w2, (∃ v w3, (Instr.endRound l.blk pe).run E.P w2 = .ok v w3 ∧ ∃ ρ', Step E base ρ w M ρ' w3 M' ∧ EndR ρ' x (.returned v)) → roundPost E.P l.blk (fun e w' => ∃ ρ', Step E base ρ w M ρ' w' M' ∧ EndR ρ' x e) e a2 w2) →
                    bd.wpIn (W (some l.blk)) 0 E.P (roundPost E.P l.blk (fun e w' => ∃ ρ', Step E base ρ w M ρ' w' M' ∧ EndR ρ' x e)) a1 w2 := by
                  intro y s2 pe hy he hx
                  refine hc.top (rd := some l.blk) hy _ ρ1 _ w2 hsr2 fun ρ2 a2 w2 e2 g1 g2 g3 => hx ρ2 e2 g3 a2 w2 ?_
                  obtain ⟨v, w3, q1, q2, q3⟩ := endA_ok g2.cons (g1.ext _ _ hl1) he
                  exact ⟨v, w3, q1, ρ2, j1.trans (m2.trans (g1.trans q2)), q3⟩
                split at h
                · rename_i s2 hy
                  refine fin .normal s2 none hy h fun ρ2 e hx a2 w2 hw2 => ?_
                  cases e with
                  | normal => exact hw2
                  | _ => exact hx.elim
                · rename_i s2 hy
                  refine fin .ret s2 _ hy h fun ρ2 e hx a2 w2 hw2 => ?_
                  cases e with
                  | ret => exact hw2
                  | _ => exact hx.elim
                · rename_i i s2 hy
                  refine fin (.exit i) s2 _ hy h fun ρ2 e hx a2 w2 hw2 => ?_
                  cases e with
                  | exit j => obtain rfl : i = j := hx; exact hw2
                  | _ => exact hx.elim
                · rename_i i s2 hy
                  refine fin (.goto i) s2 _ hy h fun ρ2 e hx a2 w2 hw2 => ?_
                  cases e with
                  | goto j => obtain rfl : i = j := hx; exact hw2
                  | _ => exact hx.elim
                · cases h
              · rw [← hw2]; simp [Instr.beginRound, Instr.getLoop, getObj, setObj, Sem.run, m1]
            | _ => exact j3.elim
        · cases h
      · cases h
    · cases h
  · cases h
def resOne (E : Env) (M : Mem) (F : T AV) : ResultVar → Option AV
  | .tmp t => some (opd F (.tmp t))
  | .cell a t => loadA E M t (opd F (.tmp a))
def resAll (E : Env) (M : Mem) (F : T AV) : List ResultVar → Option (List AV)
  | [] => some []
  | r :: rs => match resOne E M F r with
    | some v => match resAll E M F rs with
      | some l => some (v :: l)
      | none => none
    | none => none
def resultsA (E : Env) (M : Mem) (F : T AV) (fn : Func) : Option AV :=
  match resAll E M F fn.results.toList with
  | some [v] => some v
  | some l => some (.tuple l)
  | none => none
def resSem (tmps : Array Value) : ResultVar → Sem Value
  | .tmp t => pure (tmps.getD t undef)
  | .cell a t => do loadVar t (← asAddr (tmps.getD a undef))
theorem resAll_ok {E : Env} {base : Nat} {ρ : Place} {M : Mem} {w : World} (hc : Cons E base ρ M w) {F : T AV} {n : Nat} {a : Act} (hf : FR ρ F n a) : ∀ (l : List ResultVar) (vs : List AV), resAll E M F l = some vs →
    ∃ xs, (l.mapM (resSem a.tmps)).run E.P w = .ok xs w ∧ VRs ρ vs xs
  | [], vs, h => by
    simp only [resAll, Option.some.injEq] at h
    subst h
    exact ⟨[], rfl, by simp [VRs]⟩
  | r :: rs, vs, h => by
    simp only [resAll] at h
    split at h
    · rename_i v hv
      split at h
      · rename_i l hl
        simp only [Option.some.injEq] at h
        subst h
        obtain ⟨xs, h1, h2⟩ := resAll_ok hc hf rs l hl
        have : ∃ x, (resSem a.tmps r).run E.P w = .ok x w ∧ VR ρ v x := by
          cases r with
          | tmp t =>
            simp only [resOne, Option.some.injEq] at hv
            subst hv
            exact ⟨_, rfl, hf.get t⟩
          | cell c t =>
            simp only [resOne] at hv
            obtain ⟨y, k1, k2⟩ := loadA_ok hc (hf.get c) hv
            refine ⟨y, ?_, k2⟩
            simp only [resSem]
            generalize a.tmps.getD c undef = q at k1
            cases q with
            | pointer o =>
              cases o with
              | none => simp [Instr.loadAt, Instr.sureAddr, stuck] at k1
              | some ad => simpa [Instr.loadAt, Instr.sureAddr, asAddr] using k1
            | _ => simp [Instr.loadAt, Instr.sureAddr, stuck] at k1
        obtain ⟨x, k1, k2⟩ := this
        refine ⟨x :: xs, ?_, ?_⟩
        · rw [List.mapM_cons]
          simp only [Sem.run_bind, k1, Result.andThen_ok, h1, Sem.run_pure]
        · simp only [VRs]; exact ⟨x, xs, rfl, k2, h2⟩
      · cases h
    · cases h
theorem resultsA_ok {E : Env} {base : Nat} {ρ : Place} {M : Mem} {w : World} (hc : Cons E base ρ M w) {F : T AV} {n : Nat} {a : Act} (hf : FR ρ F n a) {fn : Func} {v : AV} (h : resultsA E M F fn = some v) :
    ∃ x, (results fn a.tmps).run E.P w = .ok x w ∧ VR ρ v x := by
  have hdef : results fn a.tmps = (do
      let vs ← fn.results.mapM (resSem a.tmps)
      pure (if h : vs.size = 1 then vs[0] else .tuple vs)) := by
    unfold results
    congr 1
  unfold resultsA at h
  have fin : ∀ l, resAll E M F fn.results.toList = some l → ∃ xs : List Value, (fn.results.mapM (resSem a.tmps)).run E.P w = .ok xs.toArray w ∧ VRs ρ l xs := by
    intro l hl
    obtain ⟨xs, h1, h2⟩ := resAll_ok hc hf _ l hl
    refine ⟨xs, ?_, h2⟩
    rw [Array.mapM_eq_mapM_toList]
    simp only [Sem.run_map, h1, Result.andThen_ok]
  split at h
  · rename_i u hu
    simp only [Option.some.injEq] at h
    subst h
    obtain ⟨xs, h1, h2⟩ := fin _ hu
    simp only [VRs] at h2
    obtain ⟨x, xs', rfl, h3, rfl⟩ := h2
    refine ⟨x, ?_, h3⟩
    rw [hdef]
    simp only [Sem.run_bind, h1, Result.andThen_ok, Sem.run_pure]
    simp
  · rename_i l hne hl
    simp only [Option.some.injEq] at h
    subst h
    obtain ⟨xs, h1, h2⟩ := fin _ hl
    have hlen := h2.length
    refine ⟨.tuple xs.toArray, ?_, by simp only [VR]; exact ⟨_, rfl, by simpa using h2⟩⟩
    rw [hdef]
    simp only [Sem.run_bind, h1, Result.andThen_ok, Sem.run_pure]
    have : ¬ xs.toArray.size = 1 := by
      intro e
      simp only [List.size_toArray] at e
      rw [e] at hlen
      obtain ⟨v, hv⟩ := List.length_eq_one_iff.1 hlen
      exact hne v hv
    rw [dif_neg this]
  · cases h
inductive AMode where
  | ret
  | pan (ch : AChain)
def UR (ρ : Place) : AMode → FrameMode → Prop
  | .ret, .returning => True
  | .pan ch, .panicking c => CR ρ ch c
  | _, _ => False
theorem UR.mono {ρ ρ' : Place} (h : ρ.le ρ') {u : AMode} {m : FrameMode} (e : UR ρ u m) : UR ρ' u m := by
  cases u <;> cases m <;> first | exact e | exact CR.mono h e
def settleA : AMode → AMode
  | .pan ((_, true) :: _) => .ret
  | m => m
def raisedA (u : AMode) (ch : AChain) : AMode :=
  match u with
  | .pan old => .pan (ch ++ old)
  | .ret => .pan ch
theorem CR.drop {ρ : Place} : ∀ {a : AChain} {es : List PanicEntry}, CR ρ a es → es.dropWhile (!·.goexit) = []
  | [], _, e => by simp only [CR] at e; subst e; rfl
  | (v, b) :: r, es, e => by
    simp only [CR] at e
    obtain ⟨x, es', rfl, _, h3⟩ := e
    simp [CR.drop h3]
theorem CR.append {ρ : Place} : ∀ {a b : AChain} {es fs : List PanicEntry}, CR ρ a es → CR ρ b fs → CR ρ (a ++ b) (es ++ fs)
  | [], _, _, _, e, k => by simp only [CR] at e; subst e; exact k
  | (v, b) :: r, _, es, fs, e, k => by
    simp only [CR] at e
    obtain ⟨x, es', rfl, h2, h3⟩ := e
    simp only [List.cons_append, CR]
    exact ⟨x, _, rfl, h2, CR.append h3 k⟩
theorem settleA_ok {ρ : Place} {u : AMode} {m : FrameMode} (h : UR ρ u m) : UR ρ (settleA u) (settle m) := by
  cases u with
  | ret => cases m <;> first | exact h.elim | exact trivial
  | pan ch =>
    cases m with
    | panicking c =>
      cases ch with
      | nil => simp only [UR, CR] at h; subst h; simp [settleA, settle, UR, CR]
      | cons y r =>
        obtain ⟨v, b⟩ := y
        simp only [UR, CR] at h
        obtain ⟨x, es', rfl, h2, h3⟩ := h
        cases b with
        | true =>
          have : settle (.panicking ({ v := x, recovered := true } :: es')) = .returning := by
            simp only [settle]
            rw [h3.drop]
          rw [this]
          exact trivial
        | false =>
          simp only [settleA, settle, UR, CR]
          exact ⟨x, es', rfl, h2, h3⟩
    | _ => exact h.elim
theorem raisedA_ok {ρ : Place} {u : AMode} {m : FrameMode} {ch : AChain} {c : List PanicEntry} (h : UR ρ u m) (k : CR ρ ch c) : UR ρ (raisedA u ch) (raised m c) := by
  cases u with
  | ret => cases m <;> first | exact h.elim | exact k
  | pan old =>
    cases m with
    | panicking o => exact k.append h
    | _ => exact h.elim
abbrev CallD := FuncId → List AV → AMode → Mem → Option (AEnd × AMode × Mem)
def SoundD (E : Env) (base : Nat) (callD : CallD) : Prop :=
  ∀ f args u M x u' M', callD f args u M = some (x, u', M') → (∃ fn, E.fn.get f = some fn) ∧ ∀ ρ w vals m, Cons E base ρ M w → base ≤ w.heap.size → VRs ρ args vals → UR ρ u m →
    CallsD E.P f vals.toArray m w fun e m' w' => ∃ ρ', Step E base ρ w M ρ' w' M' ∧ EndR ρ' x e ∧ UR ρ' u' m'
def leavesA (E : Env) (callD : CallD) (fn : Func) (F : T AV) : List AD → AMode → Mem → Option (AEnd × Mem)
  | [], .ret, M => match resultsA E M F fn with
    | some v => some (.ret v, M)
    | none => none
  | [], .pan ch, M => some (.pan ch, M)
  | d :: ds, u, M => match d.mark with
    | some b => match M.bl.get b with
      | some (.defd true) => leavesA E callD fn F ds u ⟨M.next, M.bl.set b (.defd false)⟩
      | _ => none
    | none => match callD d.f (d.args ++ d.cap) u M with
      | some (.ret _, u', M') => leavesA E callD fn F ds (settleA u') M'
      | some (.pan ch, u', M') => leavesA E callD fn F ds (raisedA u' ch) M'
      | none => none
theorem UR.notRun {ρ : Place} {u : AMode} {m : FrameMode} (h : UR ρ u m) : m ≠ .run := by
  cases u <;> cases m <;> first | exact h.elim | simp
theorem leavesA_ok {E : Env} (OK : E.OK) {base : Nat} {callD : CallD} (hd : SoundD E base callD) {fn : Func} {F : T AV} {n : Nat} : ∀ (D : List AD) (u : AMode) (M : Mem) (x : AEnd) (M' : Mem), leavesA E callD fn F D u M = some (x, M') →
    ∀ (ρ : Place) (a : Act) (w : World) (ds : List Deferred) (m : FrameMode) (R : Ending → World → Prop), Cons E base ρ M w → base ≤ w.heap.size → FR ρ F n a → DR ρ D ds → UR ρ u m →
      (∀ ρ' w' e, Step E base ρ w M ρ' w' M' → EndR ρ' x e → R e w') → LeavesX E.P fn a.tmps R ds m w
  | [], .ret, M, x, M', h, ρ, a, w, ds, m, R, hc, hb, hf, hds, hu, hR => by
    simp only [DR] at hds
    subst hds
    cases m with
    | returning =>
      simp only [leavesA] at h
      split at h
      · rename_i v hv
        simp only [Option.some.injEq, Prod.mk.injEq] at h
        obtain ⟨rfl, rfl⟩ := h
        obtain ⟨y, h1, h2⟩ := resultsA_ok hc hf hv
        exact ⟨y, h1, hR ρ w _ (Step.refl hc) h2⟩
      · cases h
    | _ => exact hu.elim
  | [], .pan ch, M, x, M', h, ρ, a, w, ds, m, R, hc, hb, hf, hds, hu, hR => by
    simp only [DR] at hds
    subst hds
    cases m with
    | panicking c =>
      simp only [leavesA, Option.some.injEq, Prod.mk.injEq] at h
      obtain ⟨rfl, rfl⟩ := h
      exact hR ρ w _ (Step.refl hc) hu
    | _ => exact hu.elim
  | d :: D, u, M, x, M', h, ρ, a, w, ds, m, R, hc, hb, hf, hds, hu, hR => by
    simp only [DR] at hds
    obtain ⟨dd, ds', rfl, hd1, hrest⟩ := hds
    cases hmk : d.mark with
    | some bm =>
      simp only [leavesA, hmk] at h
      split at h
      · rename_i hbm
        simp only [DR1, hmk] at hd1
        obtain ⟨l, hl, ht⟩ := hd1
        obtain ⟨l', hl', h0, h1⟩ := hc.blk bm _ hbm
        rw [hl, Option.some.injEq] at hl'
        subst hl'
        have st : Step E base ρ w M ρ { w with heap := w.heap.setIfInBounds l.blk (.deferred none) } ⟨M.next, M.bl.set bm (.defd false)⟩ :=
          Step.over hc hbm hl (by simp) (fun i hi => by simp only []; rw [Array.getElem?_setIfInBounds_ne (fun e => hi e.symm)]) ⟨h0, setObj_at h1⟩ rfl rfl rfl
        refine ⟨hu.notRun, .inl ⟨l.blk, _, ht, ?_, leavesA_ok OK hd D u _ x M' h ρ a _ ds' m R st.cons (Nat.le_trans hb st.size) hf hrest hu fun ρ'' w'' e j1 j2 => hR ρ'' w'' e (st.trans j1) j2⟩⟩
        simp only [cond_true] at h1
        simp [Instr.takeDeferred, getObj, setObj, Sem.run, h1]
      · cases h
    | none =>
    simp only [DR1, hmk] at hd1
    obtain ⟨cap, ht, hcap, hargs⟩ := hd1
    have hgo : ∃ r, callD d.f (d.args ++ d.cap) u M = some r := by
      simp only [leavesA, hmk] at h
      split at h
      · exact ⟨_, by assumption⟩
      · exact ⟨_, by assumption⟩
      · cases h
    obtain ⟨⟨x1, u1, M1⟩, hcd⟩ := hgo
    obtain ⟨⟨fd, hfd⟩, hcalls⟩ := hd _ _ _ _ _ _ _ hcd
    have hvals : VRs ρ (d.args ++ d.cap) (dd.args ++ cap).toList := by simpa using hargs.append hcap
    have hC := hcalls ρ w (dd.args ++ cap).toList m hc hb hvals hu
    refine ⟨hu.notRun, .inr ⟨.func d.f, cap, d.f, dd.args ++ cap, ht, ?_, ?_⟩⟩
    · rw [ht]
      simp only [invoke]
      exact (OK.fn _ _ hfd).2 _ w
    · rw [Array.toArray_toList] at hC
      refine CallsD.mono hC fun e m' w' he => ?_
      obtain ⟨ρ', k1, k2, k3⟩ := he
      simp only [leavesA, hmk, hcd] at h
      cases x1 with
      | ret v =>
        cases e with
        | returned y =>
          exact leavesA_ok OK hd D _ M1 x M' h ρ' a w' ds' _ R k1.cons (Nat.le_trans hb k1.size) (hf.mono k1.ext) (hrest.mono k1.ext) (settleA_ok k3) fun ρ'' w'' e j1 j2 => hR ρ'' w'' e (k1.trans j1) j2
        | _ => exact k2.elim
      | pan ch =>
        cases e with
        | panicked c =>
          exact leavesA_ok OK hd D _ M1 x M' h ρ' a w' ds' _ R k1.cons (Nat.le_trans hb k1.size) (hf.mono k1.ext) (hrest.mono k1.ext) (raisedA_ok k3 k2) fun ρ'' w'' e j1 j2 => hR ρ'' w'' e (k1.trans j1) j2
        | _ => exact k2.elim
def callStep (E : Env) (rc : CodeF) (callD : CallD) (f : Cal) (args : List AV) (M : Mem) : Option (AEnd × Mem) :=
  match f with
  | .yld b => roundStep rc b args M
  | .fn f => match E.fn.get f with
    | some fn => match E.con f args with
      | some v => some (.ret v, M)
      | none => match fn.body with
        | some c => match rc .top (args.length + (fn.ntmps - args.length)) c ⟨T.ofList args, [], M, none⟩ with
          | some (.normal, s) => leavesA E callD fn s.F s.D .ret s.M
          | some (.ret, s) => leavesA E callD fn s.F s.D .ret s.M
          | some (.panic ch, s) => leavesA E callD fn s.F s.D (.pan ch) s.M
          | _ => none
        | none => none
    | none => none
theorem enterFR {ρ : Place} {args : List AV} {vals : List Value} (h : VRs ρ args vals) (k : Nat) (ds : List Deferred) :
    FR ρ (T.ofList args) (args.length + (k - args.length)) { tmps := vals.toArray ++ Array.replicate (k - vals.toArray.size) undef, defers := ds } := by
  have hl := h.length
  refine ⟨by simp [hl], fun t => ?_⟩
  simp only [opd, T.get_ofList]
  cases ht : args[t]? with
  | none => simp [VR]
  | some v =>
    obtain ⟨x, h1, h2⟩ := h.get t v ht
    simp only []
    have hlt : t < vals.length := by
      rcases Nat.lt_or_ge t vals.length with k | k
      · exact k
      · rw [List.getElem?_eq_none k] at h1; cases h1
    have : (vals.toArray ++ Array.replicate (k - vals.toArray.size) undef).getD t undef = x := by
      rw [Array.getD_eq_getD_getElem?, Array.getElem?_append_left (by simpa using hlt)]
      simp [h1]
    rw [this]
    exact h2
theorem callStep_ok {E : Env} (OK : E.OK) {base : Nat} {rc : CodeF} (hc : SoundCode E base rc) {callD : CallD} (hd : SoundD E base callD) : SoundCall E base (callStep E rc callD) := by
  intro f args M x M' h ρ w vals hcons hbase hargs
  unfold callStep at h
  split at h
  · exact roundStep_ok hc h hcons hbase hargs
  rename_i f
  show Calls E.P f vals.toArray w _
  split at h
  · rename_i fn hfn
    obtain ⟨hf, _⟩ := OK.fn f fn hfn
    split at h
    · rename_i v hv
      simp only [Option.some.injEq, Prod.mk.injEq] at h
      obtain ⟨rfl, rfl⟩ := h
      refine Calls.mono (OK.con f args v hv base ρ w vals hcons.glob hcons.sym hbase hargs) fun e w' he => ?_
      obtain ⟨x, rfl, h1, h2⟩ := he
      exact ⟨ρ, Step.grown hcons hbase h2, h1⟩
    split at h
    · rename_i c hbody
      have hfr := enterFR hargs fn.ntmps []
      have hsr : SR E base none ρ ⟨T.ofList args, [], M, none⟩ (args.length + (fn.ntmps - args.length)) { tmps := vals.toArray ++ Array.replicate (fn.ntmps - vals.toArray.size) undef, defers := [] } w :=
        ⟨hcons, hfr, rfl, hbase, trivial⟩
      refine calls_of_wp_marks hf hbody ?_
      have go : ∀ (y : AExit) (s : St) (u : AMode), rc .top (args.length + (fn.ntmps - args.length)) c ⟨T.ofList args, [], M, none⟩ = some (y, s) → leavesA E callD fn s.F s.D u s.M = some (x, M') →
          (∀ ρ' e, XR ρ' y e → (∃ m, UR ρ' u m ∧ ∀ a' w', LeavesX E.P fn a'.tmps (fun e w' => ∃ ρ', Step E base ρ w M ρ' w' M' ∧ EndR ρ' x e) a'.defers m w' →
            bodyPostX E.P fn (fun e w' => ∃ ρ', Step E base ρ w M ρ' w' M' ∧ EndR ρ' x e) e a' w')) →
          c.wp E.P (bodyPostX E.P fn fun e w' => ∃ ρ', Step E base ρ w M ρ' w' M' ∧ EndR ρ' x e) { tmps := vals.toArray ++ Array.replicate (fn.ntmps - vals.toArray.size) undef, defers := [] } w := by
        intro y s u hy hl hx
        refine (wpIn_wide (n := 0)).1 (hc.top (rd := none) hy _ ρ _ w hsr fun ρ' a' w' e k1 k2 k3 => ?_)
        obtain ⟨m, hm, hfin⟩ := hx ρ' e k3
        refine hfin a' w' (leavesA_ok OK hd s.D u s.M x M' hl ρ' a' w' a'.defers m _ k2.cons k2.base k2.fr k2.dr hm fun ρ'' w'' e' j1 j2 => ⟨ρ'', k1.trans j1, j2⟩)
      split at h
      · rename_i s hy
        refine go .normal s .ret hy h fun ρ' e he => ⟨.returning, trivial, fun a' w' hl => ?_⟩
        cases e with
        | normal => exact hl
        | _ => exact he.elim
      · rename_i s hy
        refine go .ret s .ret hy h fun ρ' e he => ⟨.returning, trivial, fun a' w' hl => ?_⟩
        cases e with
        | ret => exact hl
        | _ => exact he.elim
      · rename_i ch s hy
        refine go (.panic ch) s (.pan ch) hy h fun ρ' e he => ?_
        cases e with
        | panic c => exact ⟨.panicking c, he, fun a' w' hl => hl⟩
        | _ => exact he.elim
      · cases h
    · cases h
  · cases h
def isRec : Op → Bool
  | .call c => match c.callee with
    | .builtin .recover => true
    | _ => false
  | _ => false
def recA : AMode → AV × AMode
  | .pan ((v, false) :: r) => (v, .pan ((v, true) :: r))
  | u => (.lit .nilIface, u)
def opsS (E : Env) (callF : CallF) (n : Nat) (ops : Array Oper) : List Nat → St → AMode → Option (AExit × St × AMode)
  | [], s, u => some (.normal, s, u)
  | i :: r, s, u => match ops[i]? with
    | none => none
    | some o => match wantA ops s.F o with
      | none => none
      | some false => match put s.F n o.dst (.lit undef) with
        | some F' => opsS E callF n ops r { s with F := F' } u
        | none => none
      | some true => match isRec o.op with
        | true => match put s.F n o.dst (recA u).1 with
          | some F' => opsS E callF n ops r { s with F := F' } (recA u).2
          | none => none
        | false => match opC E callF s.M s.F o with
          | none => none
          | some (.val v M') => match put s.F n o.dst v with
            | some F' => opsS E callF n ops r { s with F := F', M := M' } u
            | none => none
          | some (.pan ch M') => some (.panic ch, { s with M := M' }, u)
          | some (.dfr d) => match put s.F n o.dst (.lit undef) with
            | some F' => opsS E callF n ops r { s with F := F', D := d :: s.D } u
            | none => none
def evalS (E : Env) (callF : CallF) (rc : CodeF) (n : Nat) : Code → St → AMode → Option (AExit × St × AMode)
  | .seq a b, s, u => match evalS E callF rc n a s u with
    | some (.normal, s1, u1) => evalS E callF rc n b s1 u1
    | r => r
  | .cond c a b, s, u => match opd s.F c with
    | .lit (.bool true) => evalS E callF rc n a s u
    | .lit (.bool false) => evalS E callF rc n b s u
    | _ => none
  | .region _ ops false, s, u => opsS E callF n ops (List.range ops.size) s u
  | c, s, u => match rc .top n c s with
    | some (x, s') => some (x, s', u)
    | none => none
def BehindS (E : Env) (base : Nat) (ρ : Place) (w : World) (M : Mem) (n : Nat) (c₀ : Frame) (cs : List Frame) (x : AExit) (s' : St) (u' : AMode) (Q : Exit → Act → List Frame → World → Prop) : Prop :=
  ∀ ρ' a' w' e m', Step E base ρ w M ρ' w' s'.M → SR E base none ρ' s' n a' w' → XR ρ' x e → UR ρ' u' m' → Q e a' ({ c₀ with mode := m' } :: cs) w'
theorem BehindS.step {E : Env} {base : Nat} {ρ ρ' : Place} {w w' : World} {M M' : Mem} {n : Nat} {c₀ : Frame} {cs : List Frame} {x : AExit} {s' : St} {u' : AMode} {Q : Exit → Act → List Frame → World → Prop}
    (h : BehindS E base ρ w M n c₀ cs x s' u' Q) (k : Step E base ρ w M ρ' w' M') : BehindS E base ρ' w' M' n c₀ cs x s' u' Q :=
  fun _ a'' w'' e m' h1 h2 h3 h4 => h _ a'' w'' e m' (k.trans h1) h2 h3 h4
theorem recA_ok {ρ : Place} {u : AMode} {m : FrameMode} (h : UR ρ u m) (c₀ : Frame) (cs : List Frame) :
    (∃ x m', recoverD ({ c₀ with mode := m } :: cs) = some (x, { c₀ with mode := m' } :: cs) ∧ VR ρ (recA u).1 x ∧ UR ρ (recA u).2 m') ∨
    (recoverD ({ c₀ with mode := m } :: cs) = none ∧ VR ρ (recA u).1 .nilIface ∧ UR ρ (recA u).2 m) := by
  cases u with
  | ret =>
    cases m with
    | returning => exact .inr ⟨rfl, by simp [recA, VR], trivial⟩
    | _ => exact h.elim
  | pan ch =>
    cases m with
    | panicking c =>
      cases ch with
      | nil =>
        simp only [UR, CR] at h
        subst h
        exact .inr ⟨rfl, by simp [recA, VR], by simp [recA, UR, CR]⟩
      | cons y r =>
        obtain ⟨v, b⟩ := y
        simp only [UR, CR] at h
        obtain ⟨x, es', rfl, h2, h3⟩ := h
        cases b with
        | false =>
          refine .inl ⟨x, .panicking ({ v := x, recovered := true } :: es'), rfl, h2, ?_⟩
          simp only [recA, UR, CR]
          exact ⟨x, es', rfl, h2, h3⟩
        | true =>
          refine .inr ⟨rfl, by simp [recA, VR], ?_⟩
          simp only [recA, UR, CR]
          exact ⟨x, es', rfl, h2, h3⟩
    | _ => exact h.elim
theorem run_recover {P : Program} {ρ : Operand → Value} {o : Oper} (h : isRec o.op = true) (w : World) : (execOp ρ o).run P w = .ok .recover w := by
  unfold isRec at h
  split at h
  · rename_i c ho
    split at h
    · rename_i hcal
      obtain ⟨consts, hex⟩ := exec_builtin (ρ := ρ) (P := P) ho hcal w
      rw [hex]
      rfl
    · cases h
  · cases h
theorem wpOpsS_of_wp {P : Program} {ops : Array Oper} {Q : Exit → Act → List Frame → World → Prop} {i : Nat} {rest : List Nat} {o : Oper} {a : Act} {cs : List Frame} {w : World} (ho : ops[i]? = some o)
    (hw : Region.wanted o (yielded ops a.tmps) = true) (h : o.wp P a w (fun a' w' => wpOpsS P ops Q rest a' cs w') fun e a' w' => Q e a' cs w') : wpOpsS P ops Q (i :: rest) a cs w := by
  simp only [wpOpsS, ho, hw, if_true]
  unfold Oper.wp at h
  split
  · rename_i w' hr
    rw [hr] at h
    exact h.elim
  · exact h
theorem opsS_ok {E : Env} (OK : E.OK) {base : Nat} {callF : CallF} (hy : ¬ Yields1 callF) (hs : SoundCall E base callF) (hent : ∀ f args M x, callF (.fn f) args M = some x → ∃ fn, E.fn.get f = some fn) {n : Nat} {ops : Array Oper}
    {Q : Exit → Act → List Frame → World → Prop} {c₀ : Frame} {cs : List Frame} : ∀ (l : List Nat) (s : St) (u : AMode) (x : AExit) (s' : St) (u' : AMode), opsS E callF n ops l s u = some (x, s', u') → ∀ (ρ : Place) (a : Act) (w : World) (m : FrameMode), SR E base none ρ s n a w →
      UR ρ u m → BehindS E base ρ w s.M n c₀ cs x s' u' Q → wpOpsS E.P ops Q l a ({ c₀ with mode := m } :: cs) w
  | [], s, u, x, s', u', h, ρ, a, w, m, hr, hu, hb => by
    simp only [opsS, Option.some.injEq, Prod.mk.injEq] at h
    obtain ⟨rfl, rfl, rfl⟩ := h
    exact hb ρ a w .normal m (Step.refl hr.cons) hr trivial hu
  | i :: r, s, u, x, s', u', h, ρ, a, w, m, hr, hu, hb => by
    simp only [opsS] at h
    split at h
    · cases h
    · rename_i o ho
      split at h
      · cases h
      · rename_i hw
        simp only [wpOpsS, ho]
        rw [wantA_ok hr.fr hw]
        simp only [Bool.false_eq_true, if_false]
        split at h
        · rename_i F' hF
          exact opsS_ok OK hy hs hent r _ u x s' u' h ρ _ w m ⟨hr.cons, hr.fr.put (by simp [VR]) hF, by rw [put_defers]; exact hr.dr, hr.base, hr.rd⟩ hu hb
        · cases h
      · rename_i hw
        have hwant := wantA_ok hr.fr hw
        split at h
        · rename_i hrec
          split at h
          · rename_i F' hF
            simp only [wpOpsS, ho, hwant, if_true, run_recover hrec]
            rcases recA_ok hu c₀ cs with ⟨y, m', h1, h2, h3⟩ | ⟨h1, h2, h3⟩
            · rw [h1]
              exact opsS_ok OK hy hs hent r _ _ x s' u' h ρ _ w m' ⟨hr.cons, hr.fr.put h2 hF, by rw [put_defers]; exact hr.dr, hr.base, hr.rd⟩ h3 hb
            · rw [h1]
              exact opsS_ok OK hy hs hent r _ _ x s' u' h ρ _ w m ⟨hr.cons, hr.fr.put h2 hF, by rw [put_defers]; exact hr.dr, hr.base, hr.rd⟩ h3 hb
          · cases h
        · refine wpOpsS_of_wp ho hwant ?_
          split at h
          · cases h
          · rename_i v M' hv
            split at h
            · rename_i F' hF
              refine Up.wp (opC_ok OK hs hent hr.cons hr.base hr.fr hv fun ρ' y w' h1 h2 => ?_) hy
              exact opsS_ok OK hy hs hent r _ u x s' u' h ρ' _ w' m ⟨h1.cons, (hr.fr.mono h1.ext).put h2 hF, by rw [put_defers]; exact hr.dr.mono h1.ext, Nat.le_trans hr.base h1.size, hr.rd.mono h1.ext⟩ (hu.mono h1.ext) (hb.step h1)
            · cases h
          · rename_i ch M' hv
            simp only [Option.some.injEq, Prod.mk.injEq] at h
            obtain ⟨rfl, rfl, rfl⟩ := h
            refine Up.wp (opC_ok OK hs hent hr.cons hr.base hr.fr hv fun ρ' chain w' h1 h2 => ?_) hy
            exact hb ρ' a w' (.panic chain) m h1 ⟨h1.cons, hr.fr.mono h1.ext, hr.dr.mono h1.ext, Nat.le_trans hr.base h1.size, hr.rd.mono h1.ext⟩ h2 (hu.mono h1.ext)
          · rename_i d hv
            split at h
            · rename_i F' hF
              refine Up.wp (opC_ok OK hs hent hr.cons hr.base hr.fr hv fun dd h1 => ?_) hy
              have hfr : FR ρ s.F n { a with defers := dd :: a.defers } := ⟨hr.fr.size, hr.fr.get⟩
              refine opsS_ok OK hy hs hent r _ u x s' u' h ρ _ w m ⟨hr.cons, hfr.put (by simp [VR]) hF, ?_, hr.base, hr.rd⟩ hu hb
              rw [put_defers]
              exact ⟨dd, a.defers, rfl, h1, hr.dr⟩
            · cases h
theorem evalS_ok {E : Env} (OK : E.OK) {base : Nat} {callF : CallF} (hy : ¬ Yields1 callF) (hs : SoundCall E base callF) (hent : ∀ f args M x, callF (.fn f) args M = some x → ∃ fn, E.fn.get f = some fn) {rc : CodeF} (hc : SoundCode E base rc) {n : Nat}
    {c₀ : Frame} {cs : List Frame} : ∀ (c : Code) (s : St) (u : AMode) (x : AExit) (s' : St) (u' : AMode), evalS E callF rc n c s u = some (x, s', u') → ∀ (Q : Exit → Act → List Frame → World → Prop) (ρ : Place) (a : Act) (w : World) (m : FrameMode), SR E base none ρ s n a w →
      UR ρ u m → BehindS E base ρ w s.M n c₀ cs x s' u' Q → c.wpS E.P Q a ({ c₀ with mode := m } :: cs) w := by
  have other : ∀ (c : Code) (s : St) (u : AMode) (x : AExit) (s' : St) (u' : AMode), (match rc .top n c s with | some (x, s') => some (x, s', u) | none => none) = some (x, s', u') → ∀ (Q : Exit → Act → List Frame → World → Prop) (ρ : Place) (a : Act) (w : World) (m : FrameMode), SR E base none ρ s n a w →
      UR ρ u m → BehindS E base ρ w s.M n c₀ cs x s' u' Q → c.wpS E.P Q a ({ c₀ with mode := m } :: cs) w := by
    intro c s u x s' u' h Q ρ a w m hr hu hb
    split at h
    · rename_i y t hz
      simp only [Option.some.injEq, Prod.mk.injEq] at h
      obtain ⟨rfl, rfl, rfl⟩ := h
      refine wpS_of_wp ((wpIn_wide (n := 0)).1 (hc.top (rd := none) hz _ ρ a w hr fun ρ' a' w' e k1 k2 k3 => ?_))
      exact hb ρ' a' w' e m k1 k2 k3 (hu.mono k1.ext)
    · cases h
  intro c
  induction c with
  | seq c1 c2 ih1 ih2 =>
    intro s u x s' u' h Q ρ a w m hr hu hb
    simp only [evalS] at h
    refine wpS_seq ?_
    split at h
    · rename_i s1 u1 h1
      refine ih1 s u _ s1 u1 h1 _ ρ a w m hr hu fun ρ' a' w' e m' k1 k2 k3 k4 => ?_
      cases e with
      | normal => exact ih2 s1 u1 x s' u' h Q ρ' a' w' m' k2 k4 (hb.step k1)
      | _ => exact k3.elim
    · rename_i hne
      refine ih1 s u x s' u' h _ ρ a w m hr hu fun ρ' a' w' e m' k1 k2 k3 k4 => ?_
      have := hb ρ' a' w' e m' k1 k2 k3 k4
      cases e with
      | normal =>
        cases x with
        | normal => exact absurd h (hne s' u')
        | _ => exact k3.elim
      | _ => exact this
  | cond cc c1 c2 ih1 ih2 =>
    intro s u x s' u' h Q ρ a w m hr hu hb
    simp only [evalS] at h
    have hv := hr.fr.eval cc
    split at h
    · rename_i ht
      rw [ht] at hv
      exact wpS_cond (t := true) hv (ih1 s u x s' u' h Q ρ a w m hr hu hb)
    · rename_i ht
      rw [ht] at hv
      exact wpS_cond (t := false) hv (ih2 s u x s' u' h Q ρ a w m hr hu hb)
    · cases h
  | region id ops draw =>
    intro s u x s' u' h Q ρ a w m hr hu hb
    cases draw with
    | false =>
      simp only [evalS] at h
      exact wpS_region (opsS_ok OK hy hs hent _ s u x s' u' h ρ a w m hr hu hb)
    | true =>
      simp only [evalS] at h
      exact other _ s u x s' u' h Q ρ a w m hr hu hb
  | _ =>
    intro s u x s' u' h Q ρ a w m hr hu hb
    simp only [evalS] at h
    exact other _ s u x s' u' h Q ρ a w m hr hu hb
def noY (callF : CallF) : CallF := fun c args M => match c with
  | .fn f => callF (.fn f) args M
  | .yld _ => none
theorem noY_none (callF : CallF) : ¬ Yields1 (noY callF) := fun ⟨_, _, _, _, h⟩ => by simp [noY] at h
theorem noY_ok {E : Env} {base : Nat} {callF : CallF} (hs : SoundCall E base callF) : SoundCall E base (noY callF) := by
  intro c args M x M' h
  cases c with
  | fn f => exact hs (.fn f) args M x M' h
  | yld b => simp [noY] at h
def calldStep (E : Env) (callF : CallF) (rc : CodeF) (f : FuncId) (args : List AV) (u : AMode) (M : Mem) : Option (AEnd × AMode × Mem) :=
  match E.fn.get f with
  | some fn => match fn.body with
    | some c => match evalS E (noY callF) rc (args.length + (fn.ntmps - args.length)) c ⟨T.ofList args, [], M, none⟩ u with
      | some (.normal, ⟨F, [], M', _⟩, u') => match resultsA E M' F fn with
        | some v => some (.ret v, u', M')
        | none => none
      | some (.ret, ⟨F, [], M', _⟩, u') => match resultsA E M' F fn with
        | some v => some (.ret v, u', M')
        | none => none
      | some (.panic ch, ⟨_, [], M', _⟩, u') => some (.pan ch, u', M')
      | _ => none
    | none => none
  | none => none
theorem calldStep_ok {E : Env} (OK : E.OK) {base : Nat} {callF : CallF} (hs : SoundCall E base callF) (hent : ∀ f args M x, callF (.fn f) args M = some x → ∃ fn, E.fn.get f = some fn) {rc : CodeF} (hc : SoundCode E base rc) :
    SoundD E base (calldStep E callF rc) := by
  intro f args u M x u' M' h
  unfold calldStep at h
  split at h
  · rename_i fn hfn
    refine ⟨⟨fn, hfn⟩, fun ρ w vals m hcons hbase hargs hu => ?_⟩
    obtain ⟨hf, _⟩ := OK.fn f fn hfn
    split at h
    · rename_i c hbody
      have hfr := enterFR hargs fn.ntmps []
      have hsr : SR E base none ρ ⟨T.ofList args, [], M, none⟩ (args.length + (fn.ntmps - args.length)) { tmps := vals.toArray ++ Array.replicate (fn.ntmps - vals.toArray.size) undef, defers := [] } w :=
        ⟨hcons, hfr, rfl, hbase, trivial⟩
      refine callsD_of_wpS hf hbody fun c₀ cs hm => ?_
      have hc₀ : c₀ = { c₀ with mode := m } := by subst hm; rfl
      rw [hc₀]
      split at h
      · rename_i F M1 rd1 u1 hy
        split at h
        · rename_i v hv
          simp only [Option.some.injEq, Prod.mk.injEq] at h
          obtain ⟨rfl, rfl, rfl⟩ := h
          refine evalS_ok OK (noY_none callF) (noY_ok hs) (fun f args M x h => hent f args M x h) hc c _ u _ _ _ hy _ ρ _ w m hsr hu fun ρ' a' w' e m' k1 k2 k3 k4 => ?_
          cases e with
          | normal =>
            obtain ⟨y, h1, h2⟩ := resultsA_ok k2.cons k2.fr hv
            exact ⟨k2.dr, m', rfl, y, h1, ρ', k1, h2, k4⟩
          | _ => exact k3.elim
        · cases h
      · rename_i F M1 rd1 u1 hy
        split at h
        · rename_i v hv
          simp only [Option.some.injEq, Prod.mk.injEq] at h
          obtain ⟨rfl, rfl, rfl⟩ := h
          refine evalS_ok OK (noY_none callF) (noY_ok hs) (fun f args M x h => hent f args M x h) hc c _ u _ _ _ hy _ ρ _ w m hsr hu fun ρ' a' w' e m' k1 k2 k3 k4 => ?_
          cases e with
          | ret =>
            obtain ⟨y, h1, h2⟩ := resultsA_ok k2.cons k2.fr hv
            exact ⟨k2.dr, m', rfl, y, h1, ρ', k1, h2, k4⟩
          | _ => exact k3.elim
        · cases h
      · rename_i ch F M1 rd1 u1 hy
        simp only [Option.some.injEq, Prod.mk.injEq] at h
        obtain ⟨rfl, rfl, rfl⟩ := h
        refine evalS_ok OK (noY_none callF) (noY_ok hs) (fun f args M x h => hent f args M x h) hc c _ u _ _ _ hy _ ρ _ w m hsr hu fun ρ' a' w' e m' k1 k2 k3 k4 => ?_
        cases e with
        | panic ch' => exact ⟨k2.dr, m', rfl, ρ', k1, k3, k4⟩
        | _ => exact k3.elim
      · cases h
    · cases h
  · cases h
inductive Job where
  | code (ctx : Ctx) (n : Nat) (c : Code) (s : St)
  | call (f : Cal) (args : List AV) (M : Mem)
  | calld (f : FuncId) (args : List AV) (u : AMode) (M : Mem)
inductive Out where
  | code (x : AExit) (s : St)
  | call (x : AEnd) (M : Mem)
  | calld (x : AEnd) (u : AMode) (M : Mem)
def codeOf (rec : Job → Option Out) : CodeF := fun ctx n c s => match rec (.code ctx n c s) with
  | some (.code x s') => some (x, s')
  | _ => none
def callOf (rec : Job → Option Out) : CallF := fun f args M => match rec (.call f args M) with
  | some (.call x M') => some (x, M')
  | _ => none
def calldOf (rec : Job → Option Out) : CallD := fun f args u M => match rec (.calld f args u M) with
  | some (.calld x u' M') => some (x, u', M')
  | _ => none
def eval (E : Env) : Nat → Job → Option Out
  | 0, _ => none
  | k + 1, j => match j with
    | .code ctx n c s => match codeStep E (callOf (eval E k)) (codeOf (eval E k)) ctx n c s with
      | some (x, s') => some (.code x s')
      | none => none
    | .call f args M => match callStep E (codeOf (eval E k)) (calldOf (eval E k)) f args M with
      | some (x, M') => some (.call x M')
      | none => none
    | .calld f args u M => match calldStep E (callOf (eval E k)) (codeOf (eval E k)) f args u M with
      | some (x, u', M') => some (.calld x u' M')
      | none => none
theorem callStep_enters {E : Env} {rc : CodeF} {callD : CallD} {f : FuncId} {args : List AV} {M : Mem} {x : AEnd × Mem} (h : callStep E rc callD (.fn f) args M = some x) : ∃ fn, E.fn.get f = some fn := by
  unfold callStep at h
  simp only [] at h
  split at h
  · exact ⟨_, by assumption⟩
  · cases h
theorem eval_ok {E : Env} (OK : E.OK) (base : Nat) : ∀ k, SoundCode E base (codeOf (eval E k)) ∧ SoundCall E base (callOf (eval E k)) ∧ SoundD E base (calldOf (eval E k)) ∧
    ∀ f args M x, callOf (eval E k) (.fn f) args M = some x → ∃ fn, E.fn.get f = some fn
  | 0 => by
    refine ⟨fun ctx n c s x s' h => ?_, fun f args M x M' h => ?_, fun f args u M x u' M' h => ?_, fun f args M x h => ?_⟩
    · simp [codeOf, eval] at h
    · simp [callOf, eval] at h
    · simp [calldOf, eval] at h
    · simp [callOf, eval] at h
  | k + 1 => by
    obtain ⟨h1, h2, h3, h4⟩ := eval_ok OK base k
    have e1 : codeOf (eval E (k + 1)) = codeStep E (callOf (eval E k)) (codeOf (eval E k)) := by
      funext ctx n c s
      show (match (match codeStep E (callOf (eval E k)) (codeOf (eval E k)) ctx n c s with
        | some (x, s') => some (Out.code x s')
        | none => none) with
        | some (.code x s') => some (x, s')
        | _ => none) = _
      cases codeStep E (callOf (eval E k)) (codeOf (eval E k)) ctx n c s with
      | none => rfl
      | some y => rfl
    have e2 : callOf (eval E (k + 1)) = callStep E (codeOf (eval E k)) (calldOf (eval E k)) := by
      funext f args M
      simp only [callOf, eval]
      cases h : callStep E (codeOf (eval E k)) (calldOf (eval E k)) f args M with
      | none => rfl
      | some y => rfl
    have e3 : calldOf (eval E (k + 1)) = calldStep E (callOf (eval E k)) (codeOf (eval E k)) := by
      funext f args u M
      simp only [calldOf, eval]
      cases h : calldStep E (callOf (eval E k)) (codeOf (eval E k)) f args u M with
      | none => rfl
      | some y => rfl
    rw [e1, e2, e3]
    exact ⟨codeStep_ok OK h2 h4 h1, callStep_ok OK h1 h3, calldStep_ok OK h2 h4 h1, fun f args M x h => callStep_enters h⟩
def T.All {α : Type} (p : Nat → α → Prop) : Nat → Nat → T α → Prop
  | _, _, .leaf => True
  | a, m, .node v l r => (match v with | some x => p a x | none => True) ∧ T.All p a (m + m) l ∧ T.All p (a + m) (m + m) r
theorem T.All.get {α : Type} {p : Nat → α → Prop} : ∀ {t : T α} {a m : Nat}, T.All p a m t → ∀ {n : Nat} {x : α}, t.get n = some x → p (a + m * n) x
  | .leaf, _, _, _, _, _, h => by simp at h
  | .node v l r, a, m, hp, n, x, h => by
    simp only [T.All] at hp
    obtain ⟨h1, h2, h3⟩ := hp
    simp only [T.get, T.beq0] at h
    by_cases h0 : n = 0
    · subst h0
      simp only [decide_true, cond_true] at h
      subst h
      simpa using h1
    · by_cases he : n % 2 = 0
      · simp only [h0, he, decide_false, cond_false, decide_true, cond_true] at h
        have := h2.get h
        have e : a + (m + m) * (n / 2) = a + m * n := by
          have : n = 2 * (n / 2) := by omega
          rw [← Nat.two_mul, Nat.mul_comm 2 m, Nat.mul_assoc, ← this]
        rwa [e] at this
      · simp only [h0, he, decide_false, cond_false] at h
        have := h3.get h
        have e : a + m + (m + m) * (n / 2) = a + m * n := by
          have k : n = 2 * (n / 2) + 1 := by omega
          have : m * n = m * (2 * (n / 2)) + m := by rw [← Nat.mul_succ, Nat.succ_eq_add_one, ← k]
          rw [this, ← Nat.two_mul, Nat.mul_comm 2 m, Nat.mul_assoc]
          omega
        rwa [e] at this
def fieldAt (c : TypeId → DataW Unit → Nat → Option Value) (sz : TypeId → Nat) (off : Nat) : List Field → List (DataW Unit) → Option Value
  | f :: fs, d :: ds => cond (Nat.ble f.offset off && Nat.blt off (f.offset + sz f.type)) (c f.type d (off - f.offset)) (fieldAt c sz off fs ds)
  | _, _ => none
def cellAt (P : Program) : Nat → TypeId → DataW Unit → Nat → Option Value
  | 0, _, _, _ => none
  | k + 1, t, d, off => match P.underlying t with
    | some .bool => match d with
      | .lit (.bool b) => cond (Nat.beq off 0) (some (.bool b)) none
      | _ => none
    | some (.int _) => match d with
      | .lit (.int i n) => cond (Nat.beq off 0) (some (.int i n)) none
      | _ => none
    | some (.float _) => match d with
      | .lit (.float i n) => cond (Nat.beq off 0) (some (.float i n)) none
      | _ => none
    | some (.array _ e) => match d with
      | .agg ds => match ds[off / P.cellsOf e]? with
        | some d' => cond (Nat.blt (off % P.cellsOf e) (P.cellsOf e)) (cellAt P k e d' (off % P.cellsOf e)) none
        | none => none
      | _ => none
    | some (.struct fs) => match d with
      | .agg ds => fieldAt (fun t d o => cellAt P k t d o) (fun t => P.cellsOf t) off fs.toList ds
      | _ => none
    | _ => none
theorem fieldAt_some {c : TypeId → DataW Unit → Nat → Option Value} {sz : TypeId → Nat} {off : Nat} {v : Value} : ∀ {fs : List Field} {ds : List (DataW Unit)}, fieldAt c sz off fs ds = some v →
    ∃ (i : Nat) (f : Field) (d : DataW Unit), fs[i]? = some f ∧ ds[i]? = some d ∧ f.offset ≤ off ∧ off < f.offset + sz f.type ∧ c f.type d (off - f.offset) = some v
  | [], _, h => by simp [fieldAt] at h
  | _ :: _, [], h => by simp [fieldAt] at h
  | f :: fs, d :: ds, h => by
    simp only [fieldAt] at h
    cases hb : (Nat.ble f.offset off && Nat.blt off (f.offset + sz f.type)) with
    | true =>
      rw [hb] at h
      simp only [cond_true] at h
      simp only [Bool.and_eq_true, Nat.ble_eq, Nat.blt_eq] at hb
      exact ⟨0, f, d, rfl, rfl, hb.1, hb.2, h⟩
    | false =>
      rw [hb] at h
      simp only [cond_false] at h
      obtain ⟨i, f', d', h1, h2, h3⟩ := fieldAt_some h
      exact ⟨i + 1, f', d', by simpa using h1, by simpa using h2, h3⟩
theorem take_drop_get {α : Type} {cs : List α} {a n i : Nat} {v : α} (h : ((cs.drop a).take n)[i]? = some v) : cs[a + i]? = some v := by
  rw [List.getElem?_take] at h
  split at h
  · rw [List.getElem?_drop] at h; exact h
  · cases h
theorem cellAt_ok {P : Program} {w : World} {base : Nat} {sp : Nat → Bool} {held : Bool} {enc : TypeId × Value → Unit} : ∀ (k : Nat) {t : TypeId} {d : DataW Unit} {off : Nat} {v : Value}, cellAt P k t d off = some v →
    ∀ (fuel : Nat) (cs : List Value) (p : List MemPlace), DataW.trod enc P w base sp held fuel t cs = some (d, p) → cs[off]? = some v
  | 0, _, _, _, _, h => by simp [cellAt] at h
  | k + 1, t, d, off, v, h => by
    intro fuel cs p hd
    have z : ∀ {x : Value}, cond (Nat.beq off 0) (some x) none = some v → off = 0 ∧ x = v := by
      intro x hx
      cases hb : Nat.beq off 0 with
      | true => rw [hb] at hx; simp only [cond_true, Option.some.injEq] at hx; exact ⟨by simpa using hb, hx⟩
      | false => rw [hb] at hx; simp at hx
    simp only [cellAt] at h
    split at h
    · rename_i ht
      split at h
      · rename_i b
        obtain ⟨rfl, rfl⟩ := z h
        obtain ⟨b', rfl, e⟩ := DataW.trod_bool ht hd
        simp only [Prod.mk.injEq, DataW.lit.injEq, Lit.bool.injEq] at e
        rw [e.1]
        rfl
      · cases h
    · rename_i ik ht
      split at h
      · rename_i i n
        obtain ⟨rfl, rfl⟩ := z h
        obtain ⟨b', rfl, e, _⟩ := DataW.trod_int ht hd
        simp only [Prod.mk.injEq, DataW.lit.injEq, Lit.int.injEq] at e
        rw [e.1.1, e.1.2]
        rfl
      · cases h
    · rename_i ik ht
      split at h
      · rename_i i n
        obtain ⟨rfl, rfl⟩ := z h
        cases fuel with
        | zero => simp [DataW.trod] at hd
        | succ m =>
          unfold DataW.trod at hd
          rw [ht] at hd
          split at hd <;> simp_all
      · cases h
    · rename_i n e ht
      split at h
      · rename_i ds
        split at h
        · rename_i d' hd'
          cases hb : Nat.blt (off % P.cellsOf e) (P.cellsOf e) with
          | false => rw [hb] at h; simp at h
          | true =>
            rw [hb] at h
            simp only [cond_true] at h
            obtain ⟨xs, m, rfl, e1, _, hl, hel⟩ := DataW.trod_array ht hd
            simp only [Prod.mk.injEq, DataW.agg.injEq] at e1
            rw [e1.1, List.getElem?_map] at hd'
            cases hx : xs[off / P.cellsOf e]? with
            | none => rw [hx] at hd'; cases hd'
            | some y =>
              rw [hx] at hd'
              simp only [Option.map_some, Option.some.injEq] at hd'
              have hi : off / P.cellsOf e < n := by rw [← hl]; exact (List.getElem?_eq_some_iff.1 hx).1
              have h2 := hel _ hi
              rw [hx] at h2
              have h3 := cellAt_ok k h m _ y.2 (by rw [h2, ← hd'])
              have h4 := take_drop_get h3
              have h5 : off / P.cellsOf e * P.cellsOf e + off % P.cellsOf e = off := by rw [Nat.mul_comm]; exact Nat.div_add_mod _ _
              rw [h5] at h4
              exact h4
        · cases h
      · cases h
    · rename_i fs ht
      split at h
      · rename_i ds
        obtain ⟨i, f, d', h1, h2, h3, h4, h5⟩ := fieldAt_some h
        obtain ⟨xs, m, rfl, e1, _, hl, hel⟩ := DataW.trod_struct ht hd
        simp only [Prod.mk.injEq, DataW.agg.injEq] at e1
        rw [e1.1, List.getElem?_map] at h2
        cases hx : xs[i]? with
        | none => rw [hx] at h2; cases h2
        | some y =>
          rw [hx] at h2
          simp only [Option.map_some, Option.some.injEq] at h2
          have h6 := hel i f (by simpa using h1)
          rw [hx] at h6
          have h7 := cellAt_ok k h5 m _ y.2 (by rw [h6, ← h2])
          have h8 := take_drop_get h7
          have h9 : f.offset + (off - f.offset) = off := by omega
          rw [h9] at h8
          exact h8
      · cases h
    · cases h
def laidCell (P : Program) (laid : List (String × DataW Unit)) (name : String) (off : Nat) : Option Value :=
  match laid.find? (fun x => x.1 == name) with
  | some x => match P.globalNamed name with
    | some g => match P.globals[g]? with
      | some gd => cellAt P 8 gd.type x.2 off
      | none => none
    | none => none
  | none => none
theorem laidVars_mem {P : Program} {w : World} : ∀ {laid : List (String × DataW Unit)} {ps : List MemPlace}, DataW.LaidVars P w laid ps → ∀ x ∈ laid,
    ∃ g t cs fuel p, P.globalNamed x.1 = some g ∧ (P.globals[g]?).map (·.type) = some t ∧ w.var? P x.1 = some cs ∧ DataW.trod (fun _ => ()) P w 0 (fun _ => true) false fuel t cs.toList = some (x.2, p)
  | [], _, _, _, hx => by cases hx
  | (n, d) :: r, ps, h, x, hx => by
    obtain ⟨g, t, cs, fuel, p, q, h1, h2, h3, h4, h5, _⟩ := h
    rcases List.mem_cons.1 hx with rfl | hx
    · exact ⟨g, t, cs, fuel, p, h1, h2, h3, h4⟩
    · exact laidVars_mem h5 x hx
theorem laidCell_ok {P : Program} {laid : List (String × DataW Unit)} {w : World} (h : laidMet P laid w) {name : String} {g off : Nat} {v : Value} (hg : P.globalNamed name = some g) (hv : laidCell P laid name off = some v) :
    g < w.heap.size ∧ w.cell? ⟨g, off, none⟩ = some v := by
  obtain ⟨ps, h1, _, _⟩ := h
  unfold laidCell at hv
  split at hv
  · rename_i x hx
    rw [hg] at hv
    simp only [] at hv
    have hn : x.1 = name := by simpa using List.find?_some hx
    obtain ⟨g', t, cs, fuel, p, k1, k2, k3, k4⟩ := laidVars_mem h1 x (List.mem_of_find?_eq_some hx)
    rw [hn, hg, Option.some.injEq] at k1
    subst k1
    rw [hn] at k3
    split at hv
    · rename_i gd hgd
      rw [hgd] at k2
      simp only [Option.map_some, Option.some.injEq] at k2
      subst k2
      have := cellAt_ok 8 hv _ _ _ k4
      have hc : w.cell? ⟨g, off, none⟩ = some v := by rw [World.var?_cell hg k3 off]; simpa using this
      refine ⟨?_, hc⟩
      rcases Nat.lt_or_ge g w.heap.size with l | l
      · exact l
      · simp [World.cell?, Array.getElem?_eq_none l] at hc
    · cases hv
  · cases hv
def ans : Option Out → Option Value
  | some (.call (.ret (.lit v)) _) => some v
  | _ => none
theorem lits_VRs {ρ : Place} : ∀ (l : List Value), VRs ρ (l.map AV.lit) l
  | [] => by simp [VRs]
  | v :: l => by
    simp only [List.map_cons, VRs]
    exact ⟨v, l, rfl, by simp [VR], lits_VRs l⟩
theorem lit_call {E : Env} (OK : E.OK) {k : Nat} {f : FuncId} {args : List Value} {v : Value} (h : ans (eval E k (.call (.fn f) (args.map AV.lit) ⟨0, .leaf⟩)) = some v) (w : World)
    (hg : ∀ g off v, E.gcell g off = some v → g < w.heap.size ∧ w.cell? ⟨g, off, none⟩ = some v) (hsy : E.sy = fun _ => none := by rfl) (hold : E.old = fun _ => none := by rfl) :
    Calls E.P f args.toArray w fun e w' => e = .returned v ∧ RowKit.Below w.heap.size w w' := by
  unfold ans at h
  split at h
  · rename_i x M hM
    simp only [Option.some.injEq] at h
    subst h
    have hcall : callOf (eval E k) (.fn f) (args.map AV.lit) ⟨0, .leaf⟩ = some (.ret (.lit x), M) := by
      unfold callOf
      rw [hM]
    have hc : Cons E w.heap.size (fun _ => none) ⟨0, .leaf⟩ w := ⟨(fun b x hx => by simp at hx), (fun b b' x x' l l' hx => by simp at hx), (fun b l hl => by cases hl), (fun b l hl => by cases hl), ⟨hg, fun k o ho => by rw [hold] at ho; cases ho⟩, fun b l hl => by rw [hsy] at hl; cases hl⟩
    have := (eval_ok OK w.heap.size k).2.1 (.fn f) _ ⟨0, .leaf⟩ _ M hcall (fun _ => none) w args hc (Nat.le_refl _) (lits_VRs args)
    refine Calls.mono this fun e w' he => ?_
    obtain ⟨ρ', k1, k2⟩ := he
    refine ⟨?_, k1.below hc (Nat.le_refl _)⟩
    cases e with
    | returned v => simp only [EndR, VR] at k2; rw [k2]
    | _ => exact k2.elim
  · cases h
def isStr : Option Value → Bool
  | some (.string _) => true
  | _ => false
open Go.ChangeShapes Go.WideShapes Go.ChangeAt Go.RowKit
theorem okWide_one {P : Program} {W : World} {r : Go.Reach} {b0 : Nat} {t : TypeId} {v : Value} (h : Cell.okWide P W r b0 t v) : v.oneCell' = true := by
  cases v with
  | agg cs => simp [Cell.okWide, Cell.ok] at h
  | tuple cs => simp [Cell.okWide, Cell.ok] at h
  | _ => rfl
theorem open_cells {P : Program} {W : World} {r : Go.Reach} {b0 : Nat} {t : TypeId} {fs : Array Field} {v : Value} (ht : P.underlying t = some (.struct fs)) (h : Value.okWide P W r b0 t v) :
    ∃ cs, v = .agg cs ∧ cs.size = P.cellsOf t ∧ ∀ x ∈ cs.toList, x.oneCell' = true := by
  unfold Value.okWide at h
  rw [ht] at h
  obtain ⟨cs, h1, h2, ts, _, _, h3⟩ := h
  refine ⟨cs, h1, h2, fun x hx => ?_⟩
  obtain ⟨i, hi⟩ := List.getElem?_of_mem hx
  obtain ⟨u, _, hu⟩ := h3 i x (by simpa using hi)
  exact okWide_one hu
theorem ones_VRs {ρ : Place} : ∀ (l : List Value), (∀ x ∈ l, x.oneCell' = true) → VRs ρ (List.replicate l.length .one) l
  | [], _ => by simp [VRs]
  | v :: l, h => by
    simp only [List.length_cons, List.replicate_succ, VRs]
    exact ⟨v, l, rfl, by simpa only [VR] using h v (by simp), ones_VRs l fun x hx => h x (by simp [hx])⟩
theorem VR.row {ρ : Place} {cs : Array Value} {n : Nat} (h : cs.size = n) (h1 : ∀ x ∈ cs.toList, x.oneCell' = true) : VR ρ (.agg (List.replicate n .one)) (.agg cs) := by
  simp only [VR]
  refine ⟨cs, rfl, ?_⟩
  have := ones_VRs (ρ := ρ) cs.toList h1
  rwa [Array.length_toList, h] at this
theorem trodAll_below {H : Type} {enc : TypeId × Value → H} {P : Program} (hl : laidOutB P = true) {W W' : World} (hk : Below W.heap.size W W') {sp : Nat → Bool} :
    ∀ {ts : List TypeId} {vs : List Value} {ds : List (DataW H)} {ps : List MemPlace}, (∀ t ∈ ts, P.readableRec t = true ∧ t < P.types.size) → DataW.TrodAll enc P W 0 (fun _ => true) true ts vs ds ps →
      (∀ x ∈ ps, x.block < W.heap.size) → (∀ x ∈ ps, sp x.block = true) → DataW.TrodAll enc P W' 0 sp true ts vs ds ps
  | [], _, _, _, _, h, _, _ => by
    obtain ⟨rfl, rfl, rfl⟩ := trodAll_nil h
    exact trodAll_mk0
  | t :: ts, _, _, _, hall, h, hlt, hs => by
    obtain ⟨v, vs1, d, ds1, a, b, rfl, rfl, rfl, h1, h2⟩ := trodAll_cons h
    obtain ⟨hr, hrow⟩ := hall t (by simp)
    exact ⟨a, b, WideElems.Trod_stays hl hr hrow h1 (fun x hx => hk.same (hlt x (by simp [hx]))) (fun x hx => hs x (by simp [hx])),
      trodAll_below hl hk (fun u hu => hall u (by simp [hu])) h2 (fun x hx => hlt x (by simp [hx])) (fun x hx => hs x (by simp [hx])), rfl⟩
theorem post_below {H : Type} {enc : TypeId × Value → H} {P : Program} {f : Func} {s : ChangeSpec} {apart fresh handsOn again : Bool} {W W' : World} {args : Array Value} {v : Value} {ds : List (DataW H)} {before : List MemPlace}
    (hl : laidOutB P = true) (hall : ∀ t ∈ f.params.toList, P.readableRec t = true ∧ t < P.types.size)
    (hW : DataW.Whole enc P f.params.toList s.vars apart W args.toList ds [] before) (hvars : s.vars = [])
    (hsv : (s.fn H ds).vars = []) (hsa : (s.fn H ds).args = ds)
    (hres : ∀ (b : Nat) (sp : Nat → Bool) (hd : Bool), DataW.TrodAll enc P W' b sp hd f.resultTypes.toList (v.resultList f.resultTypes.size) (s.fn H ds).results [])
    (hk : Below W.heap.size W W')
    (hok : ∀ (j : Nat) (t : TypeId) (r : Value), f.resultTypes[j]? = some t → (v.resultList f.resultTypes.size)[j]? = some r → Value.okWide P W' .any 0 t r) :
    s.post enc P f apart fresh handsOn again W args v W' := by
  have hlt := hW.lt
  have hW0 := hW
  obtain ⟨p, q, hA, hV, hpq, hz, hn⟩ := hW
  have hq : q = [] := by
    rw [hvars] at hV
    exact (trodVars_none hV).2
  subst hq
  rw [List.append_nil] at hpq
  subst hpq
  have hargs : ∀ sp : Nat → Bool, (∀ x ∈ before, sp x.block = true) → DataW.TrodAll enc P W' 0 sp true f.params.toList args.toList ds before := fun sp hs => trodAll_below hl hk hall hA hlt hs
  have hv : ∀ sp : Nat → Bool, DataW.TrodVars enc P W' sp s.vars (s.fn H (ds ++ [])).vars [] := fun sp => by
    rw [hvars, List.append_nil, hsv]
    exact rfl
  have e : ds = ds ++ [] := (List.append_nil ds).symm
  refine ⟨ds, [], before, [], before, [], hW0, ?_, ?_, hv _, hk.frame _, fun _ => ?_⟩
  · rw [← e]; exact hres _ _ _
  · rw [← e, hsa]; exact hargs _ fun x hx => by simpa using hlt x hx
  · refine ⟨hok, (s.fn H ds).results ++ ds, [], ([] ++ before) ++ [], ⟨[] ++ before, [], trodAll_append (hargs _ fun _ _ => rfl) (hres _ _ _), ?_, rfl, ?_, ?_⟩, ?_⟩
    · have := hv fun _ => true
      rw [← e, hsv] at this
      exact this
    · intro b off hp
      have hp' : MemPlace.cell b off ∈ before := by simpa using hp
      rw [hk.frozen (p := ⟨b, off, none⟩) (hlt _ hp')]
      exact hz b off hp'
    · intro ha
      simpa using hn ha
    · intro x hx _
      simpa using hx
def Env.plus (E : Env) (con : FuncId → List AV → Option AV) (opc opn : Op → (Operand → AV) → Option AV) (sy : Place) (old : Nat → Option (Option Obj)) (tys : T Ty) (facts : List (Exp × Bool)) : Env :=
  { E with con := con, opc := opc, opn := opn, sy := sy, old := old, tys := tys, facts := facts }
theorem Env.OK.plus {E : Env} (OK : E.OK) {con : FuncId → List AV → Option AV} {opc opn : Op → (Operand → AV) → Option AV} {sy : Place} {old : Nat → Option (Option Obj)} {tys : T Ty} {facts : List (Exp × Bool)}
    (hcon : ∀ f args v, con f args = some v → ∀ (base : Nat) (ρ : Place) (w : World) (vals : List Value), (E.plus con opc opn sy old tys facts).Still base w → sy.le ρ → base ≤ w.heap.size → VRs ρ args vals →
      Calls E.P f vals.toArray w fun e w' => ∃ x, e = .returned x ∧ VR ρ v x ∧ RowKit.Below w.heap.size w w')
    (hopc : ∀ op g v, opc op g = some v → ∀ (base : Nat) (ρ : Place) (w : World) (e : Operand → Value), (E.plus con opc opn sy old tys facts).Still base w → sy.le ρ → (∀ x, VR ρ (g x) (e x)) →
      ∀ o : Oper, o.op = op → ∃ x, (execOp e o).run E.P w = .ok (.value x) w ∧ VR ρ v x)
    (hopn : ∀ op g v, opn op g = some v → ∀ (base : Nat) (ρ : Place) (w : World) (e : Operand → Value), (E.plus con opc opn sy old tys facts).Still base w → sy.le ρ → (∀ x, VR ρ (g x) (e x)) →
      ∀ o : Oper, o.op = op → ∃ x w', (execOp e o).run E.P w = .ok (.value x) w' ∧ VR ρ v x ∧ w'.heap = w.heap ∧ w'.os = w.os ∧ w'.tape = w.tape ∧ w'.output = w.output)
    (hty : ∀ k t, tys.get k = some t → ∃ l, sy k = some l ∧ hasTy l.val t = true)
    (hfact : ∀ f ∈ facts, f.1.ev sy = some (.bool f.2)) : (E.plus con opc opn sy old tys facts).OK where
  mixed := OK.mixed
  fn := OK.fn
  ext := OK.ext
  con := hcon
  opc := hopc
  opn := hopn
  ty := hty
  fact := hfact
def symTab (b : Nat) (l : List Value) : Place := fun k => match l[k]? with
  | some v => some ⟨b, 0, 0, v⟩
  | none => none
theorem symTab_lt {b : Nat} {l : List Value} {k : Nat} {lc : Loc} (h : symTab b l k = some lc) : k < l.length ∧ lc.blk = b := by
  unfold symTab at h
  split at h
  · rename_i v hv
    simp only [Option.some.injEq] at h
    subst h
    refine ⟨?_, rfl⟩
    rcases Nat.lt_or_ge k l.length with h | h
    · exact h
    · rw [List.getElem?_eq_none h] at hv; cases hv
  · cases h
theorem Cons.syms {E : Env} {l : List Value} {w : World} {b n : Nat} (hsy : E.sy = symTab b l) (hn : l.length ≤ n) (hs : E.Still b w) : Cons E b (symTab b l) ⟨n, .leaf⟩ w where
  blk b x hx := by simp at hx
  inj b b' x x' l l' hx := by simp at hx
  bound k lc h := Nat.lt_of_lt_of_le (symTab_lt h).1 hn
  low k lc h := Nat.le_of_eq (symTab_lt h).2.symm
  glob := hs
  sym := by rw [hsy]; exact .refl _
theorem sym_call {E : Env} (OK : E.OK) {k : Nat} {f : FuncId} {args : List AV} {n b : Nat} {v : Value} (h : ans (eval E k (.call (.fn f) args ⟨n, .leaf⟩)) = some v) (w : World)
    {l : List Value} (hsy : E.sy = symTab b l) (hb : b ≤ w.heap.size) (hn : l.length ≤ n) (hs : E.Still b w) {vals : List Value} (ha : VRs (symTab b l) args vals) :
    Calls E.P f vals.toArray w fun e w' => e = .returned v ∧ RowKit.Below w.heap.size w w' := by
  unfold ans at h
  split at h
  · rename_i x M hM
    simp only [Option.some.injEq] at h
    subst h
    have hcall : callOf (eval E k) (.fn f) args ⟨n, .leaf⟩ = some (.ret (.lit x), M) := by
      unfold callOf
      rw [hM]
    have hc := Cons.syms (n := n) hsy hn hs
    have := (eval_ok OK b k).2.1 (.fn f) _ ⟨n, .leaf⟩ _ M hcall (symTab b l) w vals hc hb ha
    refine Calls.mono this fun e w' he => ?_
    obtain ⟨ρ', k1, k2⟩ := he
    refine ⟨?_, ⟨k1.os, k1.tape, k1.output, k1.size, fun i hi => k1.frame i hi fun b x lc hx => by simp at hx⟩⟩
    cases e with
    | returned v => simp only [EndR, VR] at k2; rw [k2]
    | _ => exact k2.elim
  · cases h
theorem FR.leaf {ρ : Place} {n : Nat} {a : Act} (h : a.tmps.size = n) : FR ρ .leaf n a := ⟨h, fun t => by simp [opd, VR]⟩
theorem FR.keep {ρ : Place} {F : T AV} {n : Nat} {a : Act} (h : FR ρ F n a) {t : Nat} {v : AV} (hv : VR ρ v (a.tmps.getD t undef)) : FR ρ (F.set t v) n a := by
  refine ⟨h.size, fun u => ?_⟩
  simp only [opd, T.get_set]
  by_cases e : u = t
  · subst e; simpa using hv
  · simp only [e, if_false]
    exact h.get u
def oneMore (b : Nat) (l : Loc) (ρ : Place) : Place := fun k => match Nat.beq k b with
  | true => some l
  | false => ρ k
theorem Cons.box {E : Env} {l : List Value} {w : World} {base b : Nat} {x : AB} {lc : Loc} (hsy : E.sy = symTab base l) (hn : l.length ≤ b) (hs : E.Still base w) (hlow : base ≤ lc.blk) (hbr : BR (oneMore b lc (symTab base l)) lc x w) :
    Cons E base (oneMore b lc (symTab base l)) ⟨b + 1, T.leaf.set b x⟩ w where
  blk k y hy := by
    rw [T.get_set] at hy
    split at hy
    · rename_i e
      simp only [Option.some.injEq] at hy
      subst e hy
      exact ⟨lc, by simp [oneMore], hbr⟩
    · simp at hy
  inj k k' y y' l l' hy hy' _ _ _ := by
    rw [T.get_set] at hy hy'
    split at hy
    · split at hy'
      · omega
      · simp at hy'
    · simp at hy
  bound k lc' h := by
    unfold oneMore at h
    split at h
    · rename_i e; have := Nat.eq_of_beq_eq_true e; show k < b + 1; omega
    · have := (symTab_lt h).1; show k < b + 1; omega
  low k lc' h := by
    unfold oneMore at h
    split at h
    · simp only [Option.some.injEq] at h; subst h; exact hlow
    · exact Nat.le_of_eq (symTab_lt h).2.symm
  glob := hs
  sym := by
    rw [hsy]
    intro k lc' h
    unfold oneMore
    split
    · rename_i e
      have h1 := Nat.eq_of_beq_eq_true e
      have := (symTab_lt h).1
      omega
    · exact h
def AV.same : AV → AV → Bool
  | .lit a, .lit b => litSame a b
  | .ex a, .ex b => a.same b
  | .ptr b o, .ptr b' o' => match Nat.beq b b' with
    | true => Nat.beq o o'
    | false => false
  | _, _ => false
theorem AV.same_ok {a b : AV} (h : a.same b = true) : a = b := by
  unfold AV.same at h
  split at h
  · rw [litSame_ok h]
  · rw [Exp.same_ok h]
  · split at h
    · rename_i e
      rw [Nat.eq_of_beq_eq_true e, Nat.eq_of_beq_eq_true h]
    · cases h
  · cases h
def AExit.same : AExit → AExit → Bool
  | .normal, .normal => true
  | .ret, .ret => true
  | .exit i, .exit j => Nat.beq i j
  | _, _ => false
theorem AExit.same_ok {a b : AExit} (h : a.same b = true) : a = b := by
  unfold AExit.same at h
  split at h
  · rfl
  · rfl
  · rw [Nat.eq_of_beq_eq_true h]
  · cases h
def sameAll : List AV → List AV → Bool
  | [], [] => true
  | a :: as, b :: bs => match a.same b with
    | true => sameAll as bs
    | false => false
  | _, _ => false
theorem sameAll_ok : ∀ {a b : List AV}, sameAll a b = true → a = b
  | [], [], _ => rfl
  | a :: as, b :: bs, h => by
    simp only [sameAll] at h
    split at h
    · rename_i e; rw [AV.same_ok e, sameAll_ok h]
    · cases h
  | [], _ :: _, h => by cases h
  | _ :: _, [], h => by cases h
def after (o : Option (AExit × St)) (x : AExit) (ts : List Nat) (vs : List AV) : Bool :=
  match o with
  | some (y, s) => match y.same x with
    | true => match s.D with
      | [] => sameAll (ts.map fun t => opd s.F (.tmp t)) vs
      | _ => false
    | false => false
  | none => false
def Env.with (E : Env) (fs : List (Exp × Bool)) : Env := { E with facts := fs }
open Go.Instr
theorem hook_len {P : Program} {o : Oper} {c : Call} {t e : TypeId} {x : Operand} (ho : o.op = .call c) (hc : c.callee = .builtin .len) (ht : c.argTypes.toList = [t]) (hx : c.args.toList = [x]) (hu : P.underlying t = some (.slice e))
    {ev : Operand → Value} {a : Option Addr} {n m : Nat} (hv : ev x = .slice a n m) (w : World) : (execOp ev o).run P w = .ok (.value (.int .i64 n)) w := by
  obtain ⟨consts, hex⟩ := exec_builtin (ρ := ev) (P := P) ho hc w
  have ht' : c.argTypes = #[t] := Array.ext' (by simpa using ht)
  have hx' : c.args = #[x] := Array.ext' (by simpa using hx)
  rw [hex, ht', hx']
  simp [builtin, Builtin.len_, run_underlying hu, goInt, hv]
theorem read64 (b : Nat) : Ieee.double.read b =
    if b % 9223372036854775808 < 4503599627370496 then .number (b / 9223372036854775808 % 2 == 1) (b % 9223372036854775808) (-1074)
    else if b % 9223372036854775808 < 9218868437227405312 then
      .number (b / 9223372036854775808 % 2 == 1) (4503599627370496 + b % 9223372036854775808 % 4503599627370496) (-1074 + (b % 9223372036854775808 / 4503599627370496 - 1 : Nat))
    else if b % 9223372036854775808 = 9218868437227405312 then .infinity (b / 9223372036854775808 % 2 == 1)
    else .nan (b / 9223372036854775808 % 2 == 1) (b % 9223372036854775808 - 9218868437227405312) := rfl
theorem order_nan {b : Nat} (h : 9218868437227405312 < b % 9223372036854775808) (y : Nat) : FloatKind.f64.format.order b y = none := by
  show (Ieee.Datum.order (Ieee.double.read b) (Ieee.double.read y)) = none
  rw [read64 b, if_neg (by omega), if_neg (by omega), if_neg (by omega)]
  rfl
theorem abs_bits (v : Nat) : evBin .andNot (.int .u64 v) (.int .u64 9223372036854775808) = some (.int .u64 (v % 9223372036854775808 : Nat)) := by
  have e : ((BitVec.ofInt 64 (v : Int)) &&& ~~~(BitVec.ofInt 64 9223372036854775808)).toNat = v % 9223372036854775808 := by
    have h1 : (~~~(BitVec.ofInt 64 9223372036854775808) : BitVec 64) = BitVec.ofNat 64 9223372036854775807 := by decide
    rw [h1, BitVec.toNat_and]
    have h2 : (BitVec.ofInt 64 (v : Int)).toNat = v % 18446744073709551616 := by
      rw [BitVec.ofInt_natCast, BitVec.toNat_ofNat]
    have h3 : (BitVec.ofNat 64 9223372036854775807).toNat = 2 ^ 63 - 1 := by decide
    rw [h2, h3, Nat.and_two_pow_sub_one_eq_mod]
    omega
  have w : IntKind.u64.wrap ((v % 9223372036854775808 : Nat) : Int) = ((v % 9223372036854775808 : Nat) : Int) := by
    have h1 : ((v % 9223372036854775808 : Nat) : Int) % (2 ^ 64 : Int) = ((v % 9223372036854775808 : Nat) : Int) := by
      have : (2 ^ 64 : Int) = 18446744073709551616 := rfl
      rw [this]; omega
    show (if (false && decide (((v % 9223372036854775808 : Nat) : Int) % (2 ^ 64 : Int) ≥ (2 ^ 63 : Int))) = true then ((v % 9223372036854775808 : Nat) : Int) % (2 ^ 64 : Int) - (2 ^ 64 : Int) else ((v % 9223372036854775808 : Nat) : Int) % (2 ^ 64 : Int)) = _
    rw [h1, Bool.false_and, if_neg (by decide)]
  show pure0 (Op.intBits .andNot .u64 v 9223372036854775808) = _
  simp only [Op.intBits, pure, pure0]
  rw [show IntKind.u64.bits = 64 from rfl, e, w]
theorem order_fin {a b : Nat} {m n : Nat} {i j : Int} (ha : Ieee.double.read a = .number false m i) (hb : Ieee.double.read b = .number false n j) (hm : m ≤ n) (hi : i ≤ j) : FloatKind.f64.format.order a b ≠ some .gt := by
  show (Ieee.Datum.order (Ieee.double.read a) (Ieee.double.read b)) ≠ some .gt
  rw [ha, hb]
  simp only [Ieee.Datum.order, Ieee.signed, ne_eq, Option.some.injEq, Bool.false_eq_true, if_false]
  rw [show min i j = i by omega]
  intro h
  have h0 : (i - i).toNat = 0 := by omega
  rw [h0, Nat.shiftLeft_zero] at h
  have : n ≤ n <<< (j - i).toNat := by rw [Nat.shiftLeft_eq]; exact Nat.le_mul_of_pos_right _ (Nat.two_pow_pos _)
  unfold compare at h
  simp only [instOrdInt, compareOfLessAndEq] at h
  split at h
  · cases h
  · split at h
    · cases h
    · omega
theorem sub_fin {a : Nat} {s : Bool} {m : Nat} {i : Int} (ha : Ieee.double.read a = .number s m i) : FloatKind.f64.format.sub a a = some 0 := by
  show ((Ieee.double.read a).sum (Ieee.double.read a).opposite).map Ieee.double.write = some 0
  rw [ha]
  have h0 : Ieee.signed s m (i - min i i).toNat + Ieee.signed (!s) m (i - min i i).toNat = 0 := by
    simp only [Ieee.signed]
    cases s <;> simp <;> omega
  simp only [Ieee.Datum.opposite, Ieee.Datum.sum, h0, if_true, Option.map_some]
  cases s <;> rfl
theorem order_self {a : Nat} {s : Bool} {m : Nat} {i : Int} (ha : Ieee.double.read a = .number s m i) : FloatKind.f64.format.order a a = some .eq := by
  show (Ieee.Datum.order (Ieee.double.read a) (Ieee.double.read a)) = some .eq
  rw [ha]
  simp only [Ieee.Datum.order, Option.some.injEq]
  unfold compare
  simp [instOrdInt, compareOfLessAndEq]
theorem order_nought {a : Nat} {s : Bool} {m : Nat} {i : Int} (ha : Ieee.double.read a = .number s m i) (hm : m ≠ 0) : FloatKind.f64.format.order a 0 ≠ some .eq := by
  show (Ieee.Datum.order (Ieee.double.read a) (Ieee.double.read 0)) ≠ some .eq
  have h0 : Ieee.double.read 0 = .number false 0 (-1074) := rfl
  rw [ha, h0]
  simp only [Ieee.Datum.order, ne_eq, Option.some.injEq]
  intro h
  have hpos : 0 < m <<< (i - min i (-1074)).toNat := by
    rw [Nat.shiftLeft_eq]
    exact Nat.mul_pos (by omega) (Nat.two_pow_pos _)
  unfold compare at h
  simp only [instOrdInt, compareOfLessAndEq, Ieee.signed, Nat.zero_shiftLeft, Bool.false_eq_true, if_false] at h
  cases s <;> simp at h <;> split at h <;> simp_all <;> omega
theorem goes_none {P : Program} (h : ∀ (g : Nat) (fn : Func), P.funcs[g]? = some fn → fn.goes = false) (f : FuncId) : P.goes f = false := by
  unfold Program.goes
  have h1 : ∀ g : Nat, ((P.funcs[g]?).any Func.goes) = false := by
    intro g
    cases hq : P.funcs[g]? with
    | none => rfl
    | some fn => simpa using h g fn hq
  have h2 : P.funcs.any Func.goes = false := by
    rw [Bool.eq_false_iff]
    intro hany
    rw [Array.any_eq_true] at hany
    obtain ⟨i, hi, hg⟩ := hany
    have := h i P.funcs[i] (Array.getElem?_eq_getElem hi)
    rw [this] at hg
    cases hg
  rw [h2, Bool.and_false, Bool.or_false]
  simp [h1]
def goesNot (P : Program) : Nat → Nat → Bool
  | _, 0 => true
  | i, n + 1 => match P.funcs[i]? with
    | some fn => match fn.goes with
      | true => false
      | false => goesNot P (i + 1) n
    | none => goesNot P (i + 1) n
theorem goesNot_ok {P : Program} : ∀ (n i : Nat), goesNot P i n = true → ∀ (g : Nat) (fn : Func), i ≤ g → g < i + n → P.funcs[g]? = some fn → fn.goes = false
  | 0, i, _, g, fn, h1, h2, _ => by omega
  | n + 1, i, h, g, fn, h1, h2, hg => by
    unfold goesNot at h
    by_cases e : g = i
    · subst e
      rw [hg] at h
      simp only [] at h
      split at h
      · cases h
      · assumption
    · have h' : goesNot P (i + 1) n = true := by
        split at h
        · split at h
          · cases h
          · exact h
        · exact h
      exact goesNot_ok n (i + 1) h' g fn (by omega) (by omega) hg
theorem goesAt_none {P : Program} (h : ∀ (g : Nat) (fn : Func), P.funcs[g]? = some fn → fn.goes = false) (func : String) : P.goesAt .entering func = false := by
  unfold Program.goesAt Program.goesFrom
  cases P.funcNamed func with
  | none => rfl
  | some f => simp [goes_none h]
end Go.Proofs.YtkeibmkcgnppeaaGreatDoor.Rx

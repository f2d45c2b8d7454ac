/- A reflective evaluator of the model's code, part T: what a row asks behind a law whose arguments hold no memory. -/
import Derived.Test.YtiamenedboifeabGreatDoorRxS
import Derived.ProofKit
import Derived.ChangeSame
import Derived.Carry
namespace Go.Proofs.YtiamenedboifeabGreatDoor.Rx
open Go.ChangeShapes Go.WideShapes Go.ChangeAt Go.RowKit

/-- The arguments hold no memory; the call writes only to memory of its own. -/
theorem post_plain {H : Type} {enc : TypeId × Value → H} {P : Program} {f : Func} {s : ChangeSpec} {apart fresh handsOn again : Bool} {W W' : World} {args : Array Value} {v : Value} {ds : List (DataW H)}
    (hW : DataW.Whole enc P f.params.toList s.vars apart W args.toList ds [] []) (hvars : s.vars = [])
    (hsv : (s.fn H ds).vars = [])
    (hres : ∀ (b : Nat) (sp : Nat → Bool) (hd : Bool), DataW.TrodAll enc P W' b sp hd f.resultTypes.toList (v.resultList f.resultTypes.size) (s.fn H ds).results [])
    (hargs : ∀ sp : Nat → Bool, DataW.TrodAll enc P W' 0 sp true f.params.toList args.toList (s.fn H ds).args [])
    (hk : Below W.heap.size W W')
    (hok : ∀ (j : Nat) (t : TypeId) (r : Value), f.resultTypes[j]? = some t → (v.resultList f.resultTypes.size)[j]? = some r → Value.okWide P W' .any 0 t r) :
    s.post enc P f apart fresh handsOn again W args v W' := by
  have hv : ∀ sp : Nat → Bool, DataW.TrodVars enc P W' sp s.vars (s.fn H (ds ++ [])).vars [] := fun sp => by
    rw [hvars, List.append_nil, hsv]
    exact rfl
  have e : ds = ds ++ [] := (List.append_nil ds).symm
  have hres2 := hres
  have hargs2 := hargs
  rw [e] at hres2 hargs2
  refine ⟨ds, [], [], [], [], [], hW, hres2 _ _ _, hargs2 _, hv _, hk.frame _, fun _ => ?_⟩
  refine ⟨hok, _, _, ([] ++ []) ++ [], ⟨[] ++ [], [], trodAll_append (hargs2 _) (hres2 _ _ _), hv _, rfl, ?_, ?_⟩, ?_⟩
  · intro b off hp; cases hp
  · intro _; exact List.nodup_nil
  · intro p hp _; cases hp

/-- A struct's value is a row of cells. -/
theorem open_struct {P : Program} {W : World} {r : Go.Reach} {b0 : Nat} {t : TypeId} {fs : Array Field} {v : Value} (ht : P.underlying t = some (.struct fs)) (h : Value.okWide P W r b0 t v) : ∃ cs, v = .agg cs ∧ cs.size = P.cellsOf t := by
  unfold Value.okWide at h
  rw [ht] at h
  obtain ⟨cs, h1, h2, _⟩ := h
  exact ⟨cs, h1, h2⟩

theorem okWide_one {P : Program} {W : World} {r : Go.Reach} {b0 : Nat} {t : TypeId} {v : Value} (h : Cell.okWide P W r b0 t v) : v.oneCell' = true := by
  cases v with
  | agg cs => simp [Cell.okWide, Cell.ok] at h
  | tuple cs => simp [Cell.okWide, Cell.ok] at h
  | _ => rfl

/-- A struct's value is a row of cells, each by itself. -/
theorem open_cells {P : Program} {W : World} {r : Go.Reach} {b0 : Nat} {t : TypeId} {fs : Array Field} {v : Value} (ht : P.underlying t = some (.struct fs)) (h : Value.okWide P W r b0 t v) :
    ∃ cs, v = .agg cs ∧ cs.size = P.cellsOf t ∧ ∀ x ∈ cs.toList, x.oneCell' = true := by
  unfold Value.okWide at h
  rw [ht] at h
  obtain ⟨cs, h1, h2, ts, _, _, h3⟩ := h
  refine ⟨cs, h1, h2, fun x hx => ?_⟩
  obtain ⟨i, hi⟩ := List.getElem?_of_mem hx
  obtain ⟨u, _, hu⟩ := h3 i x (by simpa using hi)
  exact okWide_one hu

theorem ones_VRs {ρ : Place} : ∀ (l : List Value), (∀ x ∈ l, x.oneCell' = true) → VRs ρ (List.replicate l.length .one) l
  | [], _ => by simp [VRs]
  | v :: l, h => by
    simp only [List.length_cons, List.replicate_succ, VRs]
    exact ⟨v, l, rfl, by simpa only [VR] using h v (by simp), ones_VRs l fun x hx => h x (by simp [hx])⟩

/-- A row of cells of which nothing is known. -/
theorem VR.row {ρ : Place} {cs : Array Value} {n : Nat} (h : cs.size = n) (h1 : ∀ x ∈ cs.toList, x.oneCell' = true) : VR ρ (.agg (List.replicate n .one)) (.agg cs) := by
  simp only [VR]
  refine ⟨cs, rfl, ?_⟩
  have := ones_VRs (ρ := ρ) cs.toList h1
  rwa [Array.length_toList, h] at this

/-- A CALL OF ARGUMENTS THAT HOLD NO MEMORY OF THE EVALUATOR's: what it finds holds in every world that has the constant variables. -/
theorem open_call {E : Env} (OK : E.OK) {k : Nat} {f : FuncId} {args : List AV} {v : Value} (h : ans (eval E k (.call (.fn f) args ⟨0, .leaf⟩)) = some v) (w : World)
    (hg : ∀ g off v, E.gcell g off = some v → g < w.heap.size ∧ w.cell? ⟨g, off, none⟩ = some v) (hsy : E.sy = fun _ => none := by rfl) (hold : E.old = fun _ => none := by rfl) {vals : List Value} (ha : VRs (fun _ => none) args vals) :
    Calls E.P f vals.toArray w fun e w' => e = .returned v ∧ RowKit.Below w.heap.size w w' := by
  unfold ans at h
  split at h
  · rename_i x M hM
    simp only [Option.some.injEq] at h
    subst h
    have hcall : callOf (eval E k) (.fn f) args ⟨0, .leaf⟩ = some (.ret (.lit x), M) := by
      unfold callOf
      rw [hM]
    have hc : Cons E w.heap.size (fun _ => none) ⟨0, .leaf⟩ w := ⟨(fun b x hx => by simp at hx), (fun b b' x x' l l' hx => by simp at hx), (fun b l hl => by cases hl), (fun b l hl => by cases hl), ⟨hg, fun k o ho => by rw [hold] at ho; cases ho⟩, fun b l hl => by rw [hsy] at hl; cases hl⟩
    have := (eval_ok OK w.heap.size k).2.1 (.fn f) _ ⟨0, .leaf⟩ _ M hcall (fun _ => none) w vals hc (Nat.le_refl _) ha
    refine Calls.mono this fun e w' he => ?_
    obtain ⟨ρ', k1, k2⟩ := he
    refine ⟨?_, k1.below hc (Nat.le_refl _)⟩
    cases e with
    | returned v => simp only [EndR, VR] at k2; rw [k2]
    | _ => exact k2.elim
  · cases h

/-- Arguments that hold memory read as they did, if nothing below has turned. -/
theorem trodAll_below {H : Type} {enc : TypeId × Value → H} {P : Program} (hl : laidOutB P = true) {W W' : World} (hk : Below W.heap.size W W') {sp : Nat → Bool} :
    ∀ {ts : List TypeId} {vs : List Value} {ds : List (DataW H)} {ps : List MemPlace}, (∀ t ∈ ts, P.readableRec t = true ∧ t < P.types.size) → DataW.TrodAll enc P W 0 (fun _ => true) true ts vs ds ps →
      (∀ x ∈ ps, x.block < W.heap.size) → (∀ x ∈ ps, sp x.block = true) → DataW.TrodAll enc P W' 0 sp true ts vs ds ps
  | [], _, _, _, _, h, _, _ => by
    obtain ⟨rfl, rfl, rfl⟩ := trodAll_nil h
    exact trodAll_mk0
  | t :: ts, _, _, _, hall, h, hlt, hs => by
    obtain ⟨v, vs1, d, ds1, a, b, rfl, rfl, rfl, h1, h2⟩ := trodAll_cons h
    obtain ⟨hr, hrow⟩ := hall t (by simp)
    exact ⟨a, b, WideElems.Trod_stays hl hr hrow h1 (fun x hx => hk.same (hlt x (by simp [hx]))) (fun x hx => hs x (by simp [hx])),
      trodAll_below hl hk (fun u hu => hall u (by simp [hu])) h2 (fun x hx => hlt x (by simp [hx])) (fun x hx => hs x (by simp [hx])), rfl⟩

/-- The call writes only to memory of its own; its arguments may hold memory. -/
theorem post_below {H : Type} {enc : TypeId × Value → H} {P : Program} {f : Func} {s : ChangeSpec} {apart fresh handsOn again : Bool} {W W' : World} {args : Array Value} {v : Value} {ds : List (DataW H)} {before : List MemPlace}
    (hl : laidOutB P = true) (hall : ∀ t ∈ f.params.toList, P.readableRec t = true ∧ t < P.types.size)
    (hW : DataW.Whole enc P f.params.toList s.vars apart W args.toList ds [] before) (hvars : s.vars = [])
    (hsv : (s.fn H ds).vars = []) (hsa : (s.fn H ds).args = ds)
    (hres : ∀ (b : Nat) (sp : Nat → Bool) (hd : Bool), DataW.TrodAll enc P W' b sp hd f.resultTypes.toList (v.resultList f.resultTypes.size) (s.fn H ds).results [])
    (hk : Below W.heap.size W W')
    (hok : ∀ (j : Nat) (t : TypeId) (r : Value), f.resultTypes[j]? = some t → (v.resultList f.resultTypes.size)[j]? = some r → Value.okWide P W' .any 0 t r) :
    s.post enc P f apart fresh handsOn again W args v W' := by
  have hlt := hW.lt
  have hW0 := hW
  obtain ⟨p, q, hA, hV, hpq, hz, hn⟩ := hW
  have hq : q = [] := by
    rw [hvars] at hV
    exact (trodVars_none hV).2
  subst hq
  rw [List.append_nil] at hpq
  subst hpq
  have hargs : ∀ sp : Nat → Bool, (∀ x ∈ before, sp x.block = true) → DataW.TrodAll enc P W' 0 sp true f.params.toList args.toList ds before := fun sp hs => trodAll_below hl hk hall hA hlt hs
  have hv : ∀ sp : Nat → Bool, DataW.TrodVars enc P W' sp s.vars (s.fn H (ds ++ [])).vars [] := fun sp => by
    rw [hvars, List.append_nil, hsv]
    exact rfl
  have e : ds = ds ++ [] := (List.append_nil ds).symm
  refine ⟨ds, [], before, [], before, [], hW0, ?_, ?_, hv _, hk.frame _, fun _ => ?_⟩
  · rw [← e]; exact hres _ _ _
  · rw [← e, hsa]; exact hargs _ fun x hx => by simpa using hlt x hx
  · refine ⟨hok, (s.fn H ds).results ++ ds, [], ([] ++ before) ++ [], ⟨[] ++ before, [], trodAll_append (hargs _ fun _ _ => rfl) (hres _ _ _), ?_, rfl, ?_, ?_⟩, ?_⟩
    · have := hv fun _ => true
      rw [← e, hsv] at this
      exact this
    · intro b off hp
      have hp' : MemPlace.cell b off ∈ before := by simpa using hp
      rw [hk.frozen (p := ⟨b, off, none⟩) (hlt _ hp')]
      exact hz b off hp'
    · intro ha
      simpa using hn ha
    · intro x hx _
      simpa using hx

end Go.Proofs.YtiamenedboifeabGreatDoor.Rx

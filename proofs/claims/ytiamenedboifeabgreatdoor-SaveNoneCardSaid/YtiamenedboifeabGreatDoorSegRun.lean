/- The tests' pieces, from what stands ahead of them to what stands behind. -/
import Derived.Test.YtiamenedboifeabGreatDoorSegOk
namespace Go.Proofs.YtiamenedboifeabGreatDoor
open Go Go.Proofs.YtiamenedboifeabGreatDoor.Rx
set_option maxRecDepth 100000

def okV : AV → Bool
  | .lit _ => true
  | .ptr b o => Nat.beq b 20 && Nat.beq o 0
  | .ex (.sym k) => decide (k < 20)
  | .ex (.bin o (.sym k) (.lit v)) => decide (o = .add) && (Nat.beq k 5 || Nat.beq k 6) && litSame v (.int .i64 1)
  | _ => false

theorem Later.still' {W w : World} (hg : Consts W) (h : Later W w) {b : Nat} (hb : W.heap.size ≤ b) {con : FuncId → List AV → Option AV} {opc opn : Op → (Operand → AV) → Option AV} {sy : Rx.Place} {tys : T Ty} {facts : List (Exp × Bool)} :
    (env.plus con opc opn sy (oldOf W) tys facts).Still b w :=
  have hs := h.still hg (con := con) (opc := opc) (opn := opn) (sy := sy) (tys := tys) (facts := facts)
  ⟨fun g off v hv => ⟨Nat.lt_of_lt_of_le (hs.1 g off v hv).1 hb, (hs.1 g off v hv).2⟩, fun k o ho => ⟨Nat.lt_of_lt_of_le (hs.2 k o ho).1 hb, (hs.2 k o ho).2⟩⟩

theorem okV_ok {B : Nat} {S : Sy} {lc : Rx.Loc} {ρ : Rx.Place} (hle : (oneMore 20 lc (symTab B S.vals)).le ρ) {v : AV} {x : Value} (hv : okV v = true) (h : VR ρ v x) :
    VR (oneMore 20 lc (symTab B S.vals)) v x := by
  have h20 : (oneMore 20 lc (symTab B S.vals)) 20 = some lc := rfl
  have hk : ∀ k v, k < 20 → S.vals[k]? = some v → (Exp.sym k).ev (oneMore 20 lc (symTab B S.vals)) = some v := by
    intro k v hlt hk
    have hne : Nat.beq k 20 = false := by
      cases hb : Nat.beq k 20 with
      | false => rfl
      | true => have := Nat.eq_of_beq_eq_true hb; omega
    simp only [Exp.ev, oneMore, hne, symTab, hk]
  unfold okV at hv
  split at hv
  · simpa only [VR] using h
  · simp only [Bool.and_eq_true] at hv
    have := Nat.eq_of_beq_eq_true hv.1
    have := Nat.eq_of_beq_eq_true hv.2
    subst_vars
    simp only [VR] at h ⊢
    obtain ⟨l, h1, h2⟩ := h
    rw [hle _ _ h20, Option.some.injEq] at h1
    subst h1
    exact ⟨_, h20, h2⟩
  · rename_i k
    have hlt := of_decide_eq_true hv
    have hget : ∃ v, S.vals[k]? = some v := ⟨S.vals[k]'(by show k < 20; exact hlt), List.getElem?_eq_getElem _⟩
    obtain ⟨v, hg⟩ := hget
    have he := hk k v hlt hg
    simp only [VR] at h ⊢
    have h2 := Exp.ev_mono hle he
    rw [h.1, Option.some.injEq] at h2
    subst h2
    exact ⟨he, h.2⟩
  · rename_i o k u
    simp only [Bool.and_eq_true, Bool.or_eq_true] at hv
    have ho := of_decide_eq_true hv.1.1
    have hu := litSame_ok hv.2
    subst ho hu
    have hb : ∃ n, S.vals[k]? = some (.int .i64 n) := by
      rcases hv.1.2 with h | h
      · have := Nat.eq_of_beq_eq_true h; subst this; exact ⟨_, rfl⟩
      · have := Nat.eq_of_beq_eq_true h; subst this; exact ⟨_, rfl⟩
    have hlt : k < 20 := by
      rcases hv.1.2 with h | h
      · have := Nat.eq_of_beq_eq_true h; omega
      · have := Nat.eq_of_beq_eq_true h; omega
    obtain ⟨n, hn⟩ := hb
    have he := hk k _ hlt hn
    have he2 : ∃ z, (Exp.bin .add (.sym k) (.lit (.int .i64 1))).ev (oneMore 20 lc (symTab B S.vals)) = some z := by
      have := he
      simp only [Exp.ev] at this ⊢
      rw [this]
      exact ⟨_, by simp [evBin, Go.binOp, Op.intArith, pure, pure0]; rfl⟩
    obtain ⟨z, hz⟩ := he2
    simp only [VR] at h ⊢
    have h2 := Exp.ev_mono hle hz
    rw [h.1, Option.some.injEq] at h2
    subst h2
    exact ⟨hz, h.2⟩
  · cases hv

def Stand (w0 : World) (S : Sy) (nt : Nat) (ts : List Nat) (vs : List AV) (a : Act) (w : World) : Prop :=
  a.tmps.size = nt ∧ a.defers = [] ∧ RowKit.Below w0.heap.size w0 w ∧ ∃ lc : Rx.Loc, w0.heap.size ≤ lc.blk ∧ BR (oneMore 20 lc (symTab w0.heap.size S.vals)) lc (.cells 25 4 (T.ofList sBox) false 0 false) w ∧
    ∀ x ∈ ts.zip vs, VR (oneMore 20 lc (symTab w0.heap.size S.vals)) x.2 (a.tmps.getD x.1 undef)

theorem FR.fold {ρ : Rx.Place} {n : Nat} {a : Act} : ∀ {l : List (Nat × AV)} {F : T AV}, (∀ x ∈ l, VR ρ x.2 (a.tmps.getD x.1 undef)) → FR ρ F n a → FR ρ (l.foldl (fun F x => F.set x.1 x.2) F) n a
  | [], _, _, h => h
  | x :: l, F, hx, h => FR.fold (l := l) (fun y hy => hx y (by simp [hy])) (h.keep (hx x (by simp)))

theorem below_later {W w0 w : World} (h : Later W w0) (hb : RowKit.Below w0.heap.size w0 w) : Later W w :=
  ⟨Nat.le_trans h.1 hb.size, fun k hk => by rw [hb.block k (Nat.lt_of_lt_of_le hk h.1), h.2 k hk]⟩

section
variable {W w0 : World} {S : Sy} {nt : Nat} {g r : Option Bool} {in1 in2 : Bool} {cl : Cl} {facts : List (Exp × Bool)}

/-- From a state of the evaluator to what stands behind. -/
theorem seg_core {ts' : List Nat} {vs' : List AV} {l : List Code} {x : AExit} {s : St} {Q : Exit → Act → World → Prop} {a : Act} {w : World} {ρ : Rx.Place}
    (OK : (senv g r in1 in2 cl (symTab w0.heap.size S.vals) (oldOf W) facts).OK) (hok : vs'.all okV = true)
    (h : goesOn ts' vs' x (runL (senv g r in1 in2 cl (symTab w0.heap.size S.vals) (oldOf W) facts) nt l s) = true)
    (hr : SR (senv g r in1 in2 cl (symTab w0.heap.size S.vals) (oldOf W) facts) w0.heap.size none ρ s nt a w) (hb : RowKit.Below w0.heap.size w0 w)
    (hQ : ∀ a' w' e ρ', XR ρ' x e → Stand w0 S nt ts' vs' a' w' → Q e a' w') : wpL Tryz.prog l Q a w := by
  obtain ⟨s', h1, hD, hT, T', hbl, hcs⟩ := afterBox_ok h
  refine evalL_ok OK (base := w0.heap.size) l s x s' h1 Q ρ a w hr fun ρ' a' w' e st sr xr => hQ a' w' e ρ' xr ?_
  have hdef : a'.defers = [] := by
    have := sr.dr
    rw [hD] at this
    exact this
  have hbel : RowKit.Below w0.heap.size w0 w' := hb.trans (st.below hr.cons hr.base)
  obtain ⟨lc, hlc, hbr⟩ := sr.cons.blk 20 _ hbl
  have hle : (oneMore 20 lc (symTab w0.heap.size S.vals)).le ρ' := by
    intro k l hk
    unfold oneMore at hk
    split at hk
    · rename_i e
      have := Nat.eq_of_beq_eq_true e
      subst this
      rw [← hk]; exact hlc
    · exact sr.cons.sym _ _ hk
  refine ⟨sr.fr.size, hdef, hbel, lc, sr.cons.low _ _ hlc, ?_, ?_⟩
  · refine hbr.to fun i v hi hv => ?_
    have hc : ∀ i, i < 4 → cellOf T' i = cellOf (T.ofList sBox) i := by
      intro i hi
      have h2 := cellsFrom_get T' 4 0 i hi
      rw [hcs, Nat.zero_add] at h2
      match i, hi with
      | 0, _ | 1, _ | 2, _ | 3, _ =>
        simp only [sBox, List.getElem?_cons_zero, List.getElem?_cons_succ, Option.some.injEq] at h2
        rw [← h2]; rfl
    rw [hc i hi] at hv
    refine okV_ok hle ?_ hv
    match i, hi with
    | 0, _ | 1, _ | 2, _ | 3, _ => rfl
  · intro y hy
    have hmem : ∃ t v, y = (t, v) ∧ v = opd s'.F (.tmp t) ∧ v ∈ vs' := by
      rw [← hT] at hy
      have hz : ts'.zip (ts'.map fun t => opd s'.F (.tmp t)) = ts'.map fun t => (t, opd s'.F (.tmp t)) := by
        rw [List.zip_map_right]
        simp [List.zip_eq_zipWith]
      rw [hz] at hy
      obtain ⟨t, ht, rfl⟩ := List.mem_map.1 hy
      exact ⟨t, _, rfl, rfl, by rw [← hT]; exact List.mem_map.2 ⟨t, ht, rfl⟩⟩
    obtain ⟨t, v, rfl, hv, hmv⟩ := hmem
    have := sr.fr.get t
    rw [← hv] at this
    exact okV_ok hle (List.all_eq_true.1 hok v hmv) this

theorem ret_core {c : Int} {l : List Code} {s : St} {Q : Exit → Act → World → Prop} {a : Act} {w : World} {ρ : Rx.Place}
    (OK : (senv g r in1 in2 cl (symTab w0.heap.size S.vals) (oldOf W) facts).OK)
    (h : rets c (runL (senv g r in1 in2 cl (symTab w0.heap.size S.vals) (oldOf W) facts) nt l s) = true)
    (hr : SR (senv g r in1 in2 cl (symTab w0.heap.size S.vals) (oldOf W) facts) w0.heap.size none ρ s nt a w) (hb : RowKit.Below w0.heap.size w0 w)
    (hQ : ∀ a' w', a'.defers = [] → a'.tmps.getD 4 undef = .int .i64 c → RowKit.Below w0.heap.size w0 w' → Q .ret a' w') : wpL Tryz.prog l Q a w := by
  obtain ⟨s', h1, hD, hT⟩ := after_ok h
  refine evalL_ok OK (base := w0.heap.size) l s .ret s' h1 Q ρ a w hr fun ρ' a' w' e st sr xr => ?_
  have hdef : a'.defers = [] := by
    have := sr.dr
    rw [hD] at this
    exact this
  cases e with
  | ret =>
    refine hQ a' w' hdef ?_ (hb.trans (st.below hr.cons hr.base))
    have := sr.fr.get 4
    simp only [List.map_cons, List.map_nil, List.cons.injEq, and_true] at hT
    rw [hT] at this
    simpa only [i64, VR] using this
  | _ => exact xr.elim

/-- What stands, as a state of the evaluator. -/
theorem Stand.sr {ts : List Nat} {vs : List AV} {a : Act} {w : World} (hg : Consts W) (hW : Later W w0) (h : Stand w0 S nt ts vs a w) :
    ∃ ρ, SR (senv g r in1 in2 cl (symTab w0.heap.size S.vals) (oldOf W) facts) w0.heap.size none ρ (stOf ts vs) nt a w := by
  obtain ⟨h1, h2, h3, lc, h4, h5, h6⟩ := h
  refine ⟨oneMore 20 lc (symTab w0.heap.size S.vals), ?_, FR.fold h6 (FR.leaf h1), h2, h3.size, trivial⟩
  exact Cons.box (b := 20) rfl (Nat.le_refl 20) ((below_later hW h3).still' hg hW.1) h4 h5
end
end Go.Proofs.YtiamenedboifeabGreatDoor

/- The second loops of the two tests of a format. -/
import Derived.Test.YtiamenedboifeabGreatDoorSegLoop
namespace Go.Proofs.YtiamenedboifeabGreatDoor
open Go Go.Proofs.YtiamenedboifeabGreatDoor.Rx
set_option maxRecDepth 100000

def Turns2 (gg : AV → List AV) : Prop :=
  ∀ {B : Nat} {l l' : List Value} {lc : Rx.Loc} {i i' : AV}, (∀ x, VR (oneMore 20 lc (symTab B l)) i x → VR (oneMore 20 lc (symTab B l')) i' x) →
    (∀ k, k = 2 ∨ k = 6 ∨ k = 7 → ∃ v, l[k]? = some v ∧ l'[k]? = some v) → ∀ (j : Nat) (v v' : AV), (gg i)[j]? = some v → (gg i')[j]? = some v' → ∀ x, VR (oneMore 20 lc (symTab B l)) v x → VR (oneMore 20 lc (symTab B l')) v' x

structure Two (nt : Nat) (tm : List Nat) (gg : AV → List AV) (lb : Code) (te : List Nat) (ve : List AV) : Prop where
  turns : Turns2 gg
  len : ∀ a b, (gg a).length = (gg b).length
  ok : (gg (inc 5)).all okV = true ∧ ve.all okV = true
  stop : ∀ sy old, goesOn te ve (.exit 2) (runL (senv none none false false .off sy old [(more2, false)]) nt [lb] (stOf tm (gg (.ex (.sym 5))))) = true
  bad : ∀ E, chkM true E = true → rets 100 (runL E nt [lb] (stOf tm (gg (.ex (.sym 5))))) = true
  go : ∀ E, chkM false E = true → goesOn tm (gg (inc 5)) .normal (runL E nt [lb] (stOf tm (gg (.ex (.sym 5))))) = true

theorem two14 : Two 117 tm14 g14 lb14 [1, 2] [i64 256, .ptr 20 0] where
  turns := by
    intro B l l' lc i i' hi hs j v v' hv hv' x hx
    match j with
    | 0 => obtain rfl := Option.some.inj hv; obtain rfl := Option.some.inj hv'; exact cv_lit hx
    | 1 => obtain rfl := Option.some.inj hv; obtain rfl := Option.some.inj hv'; exact cv_ptr hx
    | 2 => obtain rfl := Option.some.inj hv; obtain rfl := Option.some.inj hv'; obtain ⟨u, h1, h2⟩ := hs 2 (by simp); exact cv_sym (by decide) h1 h2 hx
    | 3 => obtain rfl := Option.some.inj hv; obtain rfl := Option.some.inj hv'; obtain ⟨u, h1, h2⟩ := hs 7 (by simp); exact cv_sym (by decide) h1 h2 hx
    | 4 => obtain rfl := Option.some.inj hv; obtain rfl := Option.some.inj hv'; exact hi x hx
    | j + 5 => simp [g14] at hv
  len _ _ := rfl
  ok := ⟨rfl, rfl⟩
  stop := lb14_end
  bad E h := (and2_ok (show and2 _ _ = true from h)).1
  go E h := (and2_ok (show and2 _ _ = true from h)).1
theorem two6 : Two 122 tm6 g6 lb6 [1, 2, 5] [i64 256, .ptr 20 0, .ex (.sym 6)] where
  turns := by
    intro B l l' lc i i' hi hs j v v' hv hv' x hx
    match j with
    | 0 => obtain rfl := Option.some.inj hv; obtain rfl := Option.some.inj hv'; exact cv_lit hx
    | 1 => obtain rfl := Option.some.inj hv; obtain rfl := Option.some.inj hv'; exact cv_ptr hx
    | 2 => obtain rfl := Option.some.inj hv; obtain rfl := Option.some.inj hv'; obtain ⟨u, h1, h2⟩ := hs 6 (by simp); exact cv_sym (by decide) h1 h2 hx
    | 3 => obtain rfl := Option.some.inj hv; obtain rfl := Option.some.inj hv'; exact hi x hx
    | j + 4 => simp [g6] at hv
  len _ _ := rfl
  ok := ⟨rfl, rfl⟩
  stop := lb6_end
  bad E h := (and2_ok (show and2 _ _ = true from h)).2
  go E h := (and2_ok (show and2 _ _ = true from h)).2

theorem FD.s2_turn (D : FD) {j c j' : Nat} : ∀ k, k = 2 ∨ k = 6 ∨ k = 7 → ∃ v, (D.s2 j c).vals[k]? = some v ∧ (D.s2 j' c).vals[k]? = some v := by
  intro k hk
  rcases hk with rfl | rfl | rfl
  · exact ⟨_, rfl, rfl⟩
  · exact ⟨_, rfl, rfl⟩
  · exact ⟨_, rfl, rfl⟩

theorem loop2 {W w0 : World} {D : FD} (hD : D.OK W) (hW : Later W w0) {nt : Nat} {tm : List Nat} {gg : AV → List AV} {lb : Code} {te : List Nat} {ve : List AV} (O : Two nt tm gg lb te ve) {Q : Exit → Act → World → Prop}
    (hbad : ∀ j, j < D.m → D.bd j = true → ∀ a' w', a'.defers = [] → a'.tmps.getD 4 undef = .int .i64 100 → RowKit.Below w0.heap.size w0 w' → Q .ret a' w')
    (hend : (∀ j, j < D.m → D.bd j = false) → ∀ a' w', Stand w0 (D.s2 D.m (D.cnt D.n)) nt te ve a' w' → Q (.exit 2) a' w') :
    ∀ (d j : Nat), j + d = D.m → (∀ i, i < j → D.bd i = false) → ∀ a w, Stand w0 (D.s2 j (D.cnt D.n)) nt tm (gg (.ex (.sym 5))) a w → wpC Tryz.prog none (.loop lb) lb Q a w := by
  intro d
  induction d with
  | zero =>
    intro i hi hgood a w hs
    obtain rfl : i = D.m := by omega
    refine loop_step (wp_one ?_)
    have hf : ∀ f ∈ [(more2, false)], f.1.ev (symTab w0.heap.size (D.s2 D.m (D.cnt D.n)).vals) = some (.bool f.2) := one_fact (by
      have := less_ev (B := w0.heap.size) (l := (D.s2 D.m (D.cnt D.n)).vals) (j := 5) (k := 7) (n := D.m) (m := D.m) rfl rfl
      rw [decide_eq_false (by omega)] at this
      exact this)
    have OK : (senv none none false false .off (symTab w0.heap.size (D.s2 D.m (D.cnt D.n)).vals) (oldOf W) [(more2, false)]).OK :=
      senv_ok (fun _ h => by cases h) (fun _ h => by cases h) hD.sp hD.sq (fun h => by cases h) (fun h => by cases h) trivial hf
    obtain ⟨ρ, hr⟩ := hs.sr (g := none) (r := none) (in1 := false) (in2 := false) (cl := .off) (facts := [(more2, false)]) hD.cs hW
    refine seg_core OK O.ok.2 (O.stop _ _) hr hs.2.2.1 fun a' w' e ρ' xr hst => ?_
    cases e with
    | exit j => cases xr; exact hend (fun j hj => hgood j hj) a' w' hst
    | _ => exact xr.elim
  | succ d ih =>
    intro i hi hgood a w hs
    have hlt : i < D.m := by omega
    obtain ⟨cl, fs, hcl, hfs, hchk⟩ := hD.hb i hlt
    have OK : (senv none none false true cl (symTab w0.heap.size (D.s2 i (D.cnt D.n)).vals) (oldOf W) fs).OK :=
      senv_ok (fun _ h => by cases h) (fun _ h => by cases h) hD.sp hD.sq (fun h => by cases h) (fun _ => hD.el2 i _ hlt) hcl (hfs _)
    obtain ⟨ρ, hr⟩ := hs.sr (g := none) (r := none) (in1 := false) (in2 := true) (cl := cl) (facts := fs) hD.cs hW
    have hc := hchk (symTab w0.heap.size (D.s2 i (D.cnt D.n)).vals) (oldOf W)
    refine loop_step (wp_one ?_)
    cases hbd : D.bd i with
    | true =>
      rw [hbd] at hc
      exact ret_core OK (O.bad _ hc) hr hs.2.2.1 fun a' w' h1 h2 h3 => hbad i hlt hbd a' w' h1 h2 h3
    | false =>
      rw [hbd] at hc
      refine seg_core OK O.ok.1 (O.go _ hc) hr hs.2.2.1 fun a' w' e ρ' xr hst => ?_
      cases e with
      | normal =>
        refine ih (i + 1) (by omega) (fun j hj => ?_) a' w' (hst.re rfl rfl rfl rfl (O.len _ _) fun lc j v v' hv hv' x hx => ?_)
        · rcases Nat.lt_or_ge j i with h | h
          · exact hgood j h
          · obtain rfl : j = i := by omega
            exact hbd
        · exact O.turns (fun x hx => cv_inc (k := 5) (n := i) (by decide) rfl rfl (by have := hD.hm; omega) hx) D.s2_turn j v v' hv hv' x hx
      | _ => exact xr.elim
end Go.Proofs.YtiamenedboifeabGreatDoor

/- The loops of the two tests of a format. -/
import Derived.Test.YtiamenedboifeabGreatDoorSegRun
namespace Go.Proofs.YtiamenedboifeabGreatDoor
open Go Go.Proofs.YtiamenedboifeabGreatDoor.Rx
set_option maxRecDepth 100000

theorem sig_sym {B : Nat} {l : List Value} {lc : Rx.Loc} {k : Nat} (hlt : k < 20) {v : Value} (h : l[k]? = some v) : (Exp.sym k).ev (oneMore 20 lc (symTab B l)) = some v := by
  have hne : Nat.beq k 20 = false := by
    cases hb : Nat.beq k 20 with
    | false => rfl
    | true => have := Nat.eq_of_beq_eq_true hb; omega
  simp only [Exp.ev, oneMore, hne, symTab, h]

section
variable {B : Nat} {l l' : List Value} {lc : Rx.Loc} {x : Value}
theorem cv_lit {v : Value} (h : VR (oneMore 20 lc (symTab B l)) (.lit v) x) : VR (oneMore 20 lc (symTab B l')) (.lit v) x := by simpa only [VR] using h
theorem cv_ptr (h : VR (oneMore 20 lc (symTab B l)) (.ptr 20 0) x) : VR (oneMore 20 lc (symTab B l')) (.ptr 20 0) x := by
  simp only [VR] at h ⊢
  exact h
theorem cv_sym {k : Nat} {v : Value} (hlt : k < 20) (h1 : l[k]? = some v) (h2 : l'[k]? = some v) (h : VR (oneMore 20 lc (symTab B l)) (.ex (.sym k)) x) : VR (oneMore 20 lc (symTab B l')) (.ex (.sym k)) x := by
  simp only [VR] at h ⊢
  rw [sig_sym hlt h1] at h
  exact ⟨by rw [sig_sym hlt h2]; exact h.1, h.2⟩
theorem cv_inc {k : Nat} {n : Nat} (hlt : k < 20) (h1 : l[k]? = some (.int .i64 n)) (h2 : l'[k]? = some (.int .i64 (n + 1 : Nat))) (hb : n < 100000) (h : VR (oneMore 20 lc (symTab B l)) (inc k) x) : VR (oneMore 20 lc (symTab B l')) (.ex (.sym k)) x := by
  simp only [inc, VR] at h ⊢
  have he := sig_sym (B := B) (lc := lc) hlt h1
  have h3 : (Exp.bin .add (.sym k) (.lit (.int .i64 1))).ev (oneMore 20 lc (symTab B l)) = some (.int .i64 (n + 1 : Nat)) := by
    simp only [Exp.ev] at he ⊢
    rw [he]
    have hw : IntKind.i64.wrap ((n : Int) + 1) = (n : Int) + 1 := by
      have h1 : ((n : Int) + 1) % (2 ^ 64 : Int) = (n : Int) + 1 := by
        have : (2 ^ 64 : Int) = 18446744073709551616 := rfl
        rw [this]; omega
      have h2 : ¬ ((n : Int) + 1 ≥ (2 ^ 63 : Int)) := by
        have : (2 ^ 63 : Int) = 9223372036854775808 := rfl
        rw [this]; omega
      show (if (true && decide (((n : Int) + 1) % (2 ^ 64 : Int) ≥ (2 ^ 63 : Int))) = true then ((n : Int) + 1) % (2 ^ 64 : Int) - (2 ^ 64 : Int) else ((n : Int) + 1) % (2 ^ 64 : Int)) = _
      rw [h1, if_neg (by simpa using h2)]
    simp [evBin, Go.binOp, Op.intArith, pure, pure0, hw]
  rw [h3] at h
  exact ⟨by rw [sig_sym hlt h2]; exact h.1, h.2⟩
theorem cv_zero {k : Nat} (hlt : k < 20) (h2 : l'[k]? = some (.int .i64 0)) (h : VR (oneMore 20 lc (symTab B l)) (i64 0) x) : VR (oneMore 20 lc (symTab B l')) (.ex (.sym k)) x := by
  simp only [i64, VR] at h ⊢
  subst h
  exact ⟨sig_sym hlt h2, rfl⟩
end

theorem Stand.re {w0 : World} {S S' : Sy} {nt : Nat} {ts : List Nat} {vs vs' : List AV} {a : Act} {w : World} (h : Stand w0 S nt ts vs a w) (hk : S'.k = S.k) (hp : S'.p = S.p) (hq : S'.q = S.q) (hw : S'.wh = S.wh)
    (hlen : vs.length = vs'.length)
    (hc : ∀ (lc : Rx.Loc) (i : Nat) (v v' : AV), vs[i]? = some v → vs'[i]? = some v' → ∀ x, VR (oneMore 20 lc (symTab w0.heap.size S.vals)) v x → VR (oneMore 20 lc (symTab w0.heap.size S'.vals)) v' x) :
    Stand w0 S' nt ts vs' a w := by
  obtain ⟨h1, h2, h3, lc, h4, h5, h6⟩ := h
  refine ⟨h1, h2, h3, lc, h4, h5.to fun i v hi hv => ?_, fun y hy => ?_⟩
  · match i, hi with
    | 0, _ => exact cv_sym (k := 0) (by decide) (v := .int .i64 S.k) rfl (by rw [← hk]; rfl) hv
    | 1, _ => exact cv_sym (k := 1) (by decide) (v := S.p) rfl (by rw [← hp]; rfl) hv
    | 2, _ => exact cv_sym (k := 2) (by decide) (v := S.q) rfl (by rw [← hq]; rfl) hv
    | 3, _ => exact cv_sym (k := 3) (by decide) (v := .bool S.wh) rfl (by rw [← hw]; rfl) hv
  · obtain ⟨i, hi⟩ := List.getElem?_of_mem hy
    rw [List.getElem?_zip_eq_some] at hi
    obtain ⟨hi1, hi2⟩ := hi
    have hlt : i < vs.length := by
      rw [hlen]
      rcases Nat.lt_or_ge i vs'.length with h | h
      · exact h
      · rw [List.getElem?_eq_none h] at hi2; cases hi2
    have hv := List.getElem?_eq_getElem hlt
    refine hc lc i _ _ hv hi2 _ (h6 (y.1, vs[i]) ?_)
    exact List.mem_of_getElem? (i := i) (by rw [List.getElem?_zip_eq_some]; exact ⟨hi1, hv⟩)

theorem wp_one {P : Program} {c : Code} {Q : Exit → Act → World → Prop} {a : Act} {w : World} (h : wpL P [c] Q a w) : c.wp P Q a w :=
  wp_mono (show c.wp P (Exit.then (wpL P [] Q) Q) a w from h) fun e a w he => by
    cases e with
    | normal => exact he
    | _ => exact he

structure Pc where
  e : Value
  kd : Int
  tx : ByteArray
  mn : Int
  pl : Int
  ex : Int
  gr : Bool
  lo : Bool
structure Mp where
  e : Value
  op : Int
  vl : Nat
  ap : Int
structure FD where
  k : Int
  p : Value
  q : Value
  wh : Bool
  n : Nat
  m : Nat
  P : Nat → Pc
  M : Nat → Mp
  gd : Nat → Bool
  rd : Nat → Bool
  bd : Nat → Bool

def FD.s1 (D : FD) (i c : Nat) : Sy := { k := D.k, p := D.p, q := D.q, wh := D.wh, n := D.n, m := D.m, i := i, c := c, e1 := (D.P i).e, kd := (D.P i).kd, tx := (D.P i).tx, mn := (D.P i).mn, pl := (D.P i).pl, ex := (D.P i).ex, gr := (D.P i).gr, lo := (D.P i).lo }
def FD.s2 (D : FD) (j c : Nat) : Sy := { k := D.k, p := D.p, q := D.q, wh := D.wh, n := D.n, m := D.m, i := j, c := c, e2 := (D.M j).e, op := (D.M j).op, vl := (D.M j).vl, ap := (D.M j).ap }

def FD.num (D : FD) (i : Nat) : Nat := if (D.P i).kd = 2 ∨ (D.P i).kd = 3 then 1 else 0
def FD.cnt (D : FD) : Nat → Nat
  | 0 => 0
  | i + 1 => D.cnt i + D.num i

structure FD.OK (W : World) (D : FD) : Prop where
  cs : Consts W
  sp : SlOK D.p D.n
  sq : SlOK D.q D.m
  hn : D.n ≤ 64
  hm : D.m ≤ 8
  k0 : 0 ≤ D.k
  k7 : D.k ≤ 7
  el1 : ∀ i c, i < D.n → ElOK W D.p i (D.P i).e 7 (D.s1 i c).piece
  el2 : ∀ j c, j < D.m → ElOK W D.q j (D.M j).e 3 (D.s2 j c).map
  hg : ∀ i, i < D.n → Both W 37 21 #[.int .i64 D.k, .int .i64 (D.P i).kd] (D.gd i)
  hr : ∀ i, i < D.n → Both W 38 22 #[prow (D.P i).kd (D.P i).mn (D.P i).pl (D.P i).ex (D.P i).tx (D.P i).gr (D.P i).lo] (D.rd i)
  hb : ∀ j, j < D.m → ∃ cl fs, ClOK W (D.M j).vl cl ∧ (∀ b, ∀ f ∈ fs, f.1.ev (symTab b (D.s2 j (D.cnt D.n)).vals) = some (.bool f.2)) ∧ ∀ sy old, chkM (D.bd j) (senv none none false true cl sy old fs) = true

theorem FD.cnt_le (D : FD) : ∀ i, D.cnt i ≤ i
  | 0 => Nat.le_refl _
  | i + 1 => by
    have := D.cnt_le i
    simp only [FD.cnt, FD.num]
    split <;> omega

theorem loop_step {P : Program} {c : Code} {Q : Exit → Act → World → Prop} {a : Act} {w : World} (h : c.wp P (Exit.then (wpC P none (.loop c) c Q) Q) a w) : wpC P none (.loop c) c Q a w :=
  wpC_loop ((wpIn_wide (n := 0)).2 h)
theorem loop_done {P : Program} {c : Code} {Q : Exit → Act → World → Prop} {a : Act} {w : World} (h : wpC P none (.loop c) c Q a w) : (Code.loop c).wp P Q a w :=
  (wpIn_wide (n := 0)).1 (wp_loop_in h)

/-- A head of a loop: its list goes over into another by its two that turn. -/
def Turns (hh : AV → AV → List AV) : Prop :=
  ∀ {B : Nat} {l l' : List Value} {lc : Rx.Loc} {i i' c c' : AV}, (∀ x, VR (oneMore 20 lc (symTab B l)) i x → VR (oneMore 20 lc (symTab B l')) i' x) → (∀ x, VR (oneMore 20 lc (symTab B l)) c x → VR (oneMore 20 lc (symTab B l')) c' x) →
    (∀ k, k = 1 ∨ k = 2 ∨ k = 4 ∨ k = 7 ∨ k = 6 → ∃ v, l[k]? = some v ∧ (k = 6 ∨ l'[k]? = some v)) → ∀ (j : Nat) (v v' : AV), (hh i c)[j]? = some v → (hh i' c')[j]? = some v' → ∀ x, VR (oneMore 20 lc (symTab B l)) v x → VR (oneMore 20 lc (symTab B l')) v' x

theorem cmp_ev {B : Nat} {l : List Value} {o : BinOp} {k : Nat} {n c : Int} {t : Bool} (hk : l[k]? = some (.int .i64 n)) (h : cmpInt o n c = some t) : (cmpL o k c).ev (symTab B l) = some (.bool t) := by
  have h1 : (Exp.sym k).ev (symTab B l) = some (.int .i64 n) := by simp only [Exp.ev, symTab, hk]
  simp only [cmpL, Exp.ev] at h1 ⊢
  rw [h1]
  exact cmpInt_ev h
theorem less_ev {B : Nat} {l : List Value} {j k : Nat} {n m : Int} (hj : l[j]? = some (.int .i64 n)) (hk : l[k]? = some (.int .i64 m)) : (Exp.bin .lss (.sym j) (.sym k)).ev (symTab B l) = some (.bool (decide (n < m))) := by
  simp only [Exp.ev, symTab, hj, hk]
  exact cmpInt_ev rfl

/-- What the first loop of a test comes to, by its closed facts. -/
structure One (nt : Nat) (ts : List Nat) (hh : AV → AV → List AV) (la : Code) : Prop where
  turns : Turns hh
  len : ∀ a b c d, (hh a b).length = (hh c d).length
  ok : (hh (inc 5) (inc 6)).all okV = true ∧ (hh (inc 5) (.ex (.sym 6))).all okV = true
  stop : ∀ sy old, goesOn [1, 2, 5] [i64 256, .ptr 20 0, .ex (.sym 6)] (.exit 0) (runL (senv none none false false .off sy old [(more, false)]) nt [la] (stOf ts (hh (.ex (.sym 5)) (.ex (.sym 6))))) = true
  bad1 : ∀ sy old r, rets 100 (runL (senv (some false) r true false .off sy old [(more, true)]) nt [la] (stOf ts (hh (.ex (.sym 5)) (.ex (.sym 6))))) = true
  bad2 : ∀ sy old, rets 100 (runL (senv (some true) (some false) true false .off sy old [(more, true)]) nt [la] (stOf ts (hh (.ex (.sym 5)) (.ex (.sym 6))))) = true
  go2 : ∀ sy old, goesOn ts (hh (inc 5) (inc 6)) .normal (runL (senv (some true) (some true) true false .off sy old [(num2, true), (more, true)]) nt [la] (stOf ts (hh (.ex (.sym 5)) (.ex (.sym 6))))) = true
  go3 : ∀ sy old, goesOn ts (hh (inc 5) (inc 6)) .normal (runL (senv (some true) (some true) true false .off sy old [(num2, false), (num3, true), (more, true)]) nt [la] (stOf ts (hh (.ex (.sym 5)) (.ex (.sym 6))))) = true
  go0 : ∀ sy old, goesOn ts (hh (inc 5) (.ex (.sym 6))) .normal (runL (senv (some true) (some true) true false .off sy old [(num2, false), (num3, false), (more, true)]) nt [la] (stOf ts (hh (.ex (.sym 5)) (.ex (.sym 6))))) = true

theorem one14 : One 117 ts14 h14 la14 where
  turns := by
    intro B l l' lc i i' c c' hi hc hs j v v' hv hv' x hx
    match j with
    | 0 => obtain rfl := Option.some.inj hv; obtain rfl := Option.some.inj hv'; exact cv_lit hx
    | 1 => obtain rfl := Option.some.inj hv; obtain rfl := Option.some.inj hv'; exact cv_ptr hx
    | 2 => obtain rfl := Option.some.inj hv; obtain rfl := Option.some.inj hv'; obtain ⟨u, h1, h2⟩ := hs 1 (by simp); exact cv_sym (by decide) h1 (h2.resolve_left (by decide)) hx
    | 3 => obtain rfl := Option.some.inj hv; obtain rfl := Option.some.inj hv'; obtain ⟨u, h1, h2⟩ := hs 4 (by simp); exact cv_sym (by decide) h1 (h2.resolve_left (by decide)) hx
    | 4 => obtain rfl := Option.some.inj hv; obtain rfl := Option.some.inj hv'; exact hi x hx
    | 5 => obtain rfl := Option.some.inj hv; obtain rfl := Option.some.inj hv'; exact hc x hx
    | j + 6 => simp [h14] at hv
  len _ _ _ _ := rfl
  ok := ⟨rfl, rfl⟩
  stop := la14_end
  bad1 := la14_bad1
  bad2 := la14_bad2
  go2 := la14_num2
  go3 := la14_num3
  go0 := la14_num
theorem one6 : One 122 ts6 h6 la6 where
  turns := by
    intro B l l' lc i i' c c' hi hc hs j v v' hv hv' x hx
    match j with
    | 0 => obtain rfl := Option.some.inj hv; obtain rfl := Option.some.inj hv'; exact cv_lit hx
    | 1 => obtain rfl := Option.some.inj hv; obtain rfl := Option.some.inj hv'; exact cv_ptr hx
    | 2 => obtain rfl := Option.some.inj hv; obtain rfl := Option.some.inj hv'; exact hi x hx
    | 3 => obtain rfl := Option.some.inj hv; obtain rfl := Option.some.inj hv'; exact hc x hx
    | j + 4 => simp [h6] at hv
  len _ _ _ _ := rfl
  ok := ⟨rfl, rfl⟩
  stop := la6_end
  bad1 := la6_bad1
  bad2 := la6_bad2
  go2 := la6_num2
  go3 := la6_num3
  go0 := la6_num

theorem cons_fact {σ : Rx.Place} {e : Exp} {b : Bool} {l : List (Exp × Bool)} (h : e.ev σ = some (.bool b)) (hl : ∀ f ∈ l, f.1.ev σ = some (.bool f.2)) : ∀ f ∈ (e, b) :: l, f.1.ev σ = some (.bool f.2) := by
  intro f hf
  rcases List.mem_cons.1 hf with rfl | hf
  · exact h
  · exact hl f hf

theorem FD.s1_turn (D : FD) {i c i' c' : Nat} : ∀ k, k = 1 ∨ k = 2 ∨ k = 4 ∨ k = 7 ∨ k = 6 → ∃ v, (D.s1 i c).vals[k]? = some v ∧ (k = 6 ∨ (D.s1 i' c').vals[k]? = some v) := by
  intro k hk
  rcases hk with rfl | rfl | rfl | rfl | rfl
  · exact ⟨_, rfl, .inr rfl⟩
  · exact ⟨_, rfl, .inr rfl⟩
  · exact ⟨_, rfl, .inr rfl⟩
  · exact ⟨_, rfl, .inr rfl⟩
  · exact ⟨_, rfl, .inl rfl⟩

theorem loop1 {W w0 : World} {D : FD} (hD : D.OK W) (hW : Later W w0) {nt : Nat} {ts : List Nat} {hh : AV → AV → List AV} {la : Code} (O : One nt ts hh la) {Q : Exit → Act → World → Prop}
    (hbad : ∀ i, i < D.n → (D.gd i && D.rd i) = false → ∀ a' w', a'.defers = [] → a'.tmps.getD 4 undef = .int .i64 100 → RowKit.Below w0.heap.size w0 w' → Q .ret a' w')
    (hend : (∀ i, i < D.n → (D.gd i && D.rd i) = true) → ∀ a' w', Stand w0 (D.s1 D.n (D.cnt D.n)) nt [1, 2, 5] [i64 256, .ptr 20 0, .ex (.sym 6)] a' w' → Q (.exit 0) a' w') :
    ∀ (d i : Nat), i + d = D.n → (∀ j, j < i → (D.gd j && D.rd j) = true) → ∀ a w, Stand w0 (D.s1 i (D.cnt i)) nt ts (hh (.ex (.sym 5)) (.ex (.sym 6))) a w → wpC Tryz.prog none (.loop la) la Q a w := by
  intro d
  induction d with
  | zero =>
    intro i hi hgood a w hs
    obtain rfl : i = D.n := by omega
    refine loop_step (wp_one ?_)
    have hf : ∀ f ∈ [(more, false)], f.1.ev (symTab w0.heap.size (D.s1 D.n (D.cnt D.n)).vals) = some (.bool f.2) := one_fact (by
      have := less_ev (B := w0.heap.size) (l := (D.s1 D.n (D.cnt D.n)).vals) (j := 5) (k := 4) (n := D.n) (m := D.n) rfl rfl
      rw [decide_eq_false (by omega)] at this
      exact this)
    have OK : (senv none none false false .off (symTab w0.heap.size (D.s1 D.n (D.cnt D.n)).vals) (oldOf W) [(more, false)]).OK :=
      senv_ok (fun _ h => by cases h) (fun _ h => by cases h) hD.sp hD.sq (fun h => by cases h) (fun h => by cases h) trivial hf
    obtain ⟨ρ, hr⟩ := hs.sr (g := none) (r := none) (in1 := false) (in2 := false) (cl := .off) (facts := [(more, false)]) hD.cs hW
    refine seg_core OK rfl (O.stop _ _) hr hs.2.2.1 fun a' w' e ρ' xr hst => ?_
    cases e with
    | exit j => cases xr; exact hend (fun j hj => hgood j hj) a' w' hst
    | _ => exact xr.elim
  | succ d ih =>
    intro i hi hgood a w hs
    have hlt : i < D.n := by omega
    have hmore : more.ev (symTab w0.heap.size (D.s1 i (D.cnt i)).vals) = some (.bool true) := by
      have := less_ev (B := w0.heap.size) (l := (D.s1 i (D.cnt i)).vals) (j := 5) (k := 4) (n := i) (m := D.n) rfl rfl
      rw [decide_eq_true (by omega)] at this
      exact this
    refine loop_step (wp_one ?_)
    have hB1 : ∀ b, some (D.gd i) = some b → Both W 37 21 #[.int .i64 (D.s1 i (D.cnt i)).k, .int .i64 (D.s1 i (D.cnt i)).kd] b := fun b hb => by
      simp only [Option.some.injEq] at hb
      subst hb
      exact hD.hg i hlt
    have hB2 : ∀ b, some (D.rd i) = some b → Both W 38 22 #[prow (D.s1 i (D.cnt i)).kd (D.s1 i (D.cnt i)).mn (D.s1 i (D.cnt i)).pl (D.s1 i (D.cnt i)).ex (D.s1 i (D.cnt i)).tx (D.s1 i (D.cnt i)).gr (D.s1 i (D.cnt i)).lo] b := fun b hb => by
      simp only [Option.some.injEq] at hb
      subst hb
      exact hD.hr i hlt
    have mk : ∀ {g r : Option Bool} {facts : List (Exp × Bool)}, (∀ b, g = some b → some (D.gd i) = some b) → (∀ b, r = some b → some (D.rd i) = some b) → (∀ f ∈ facts, f.1.ev (symTab w0.heap.size (D.s1 i (D.cnt i)).vals) = some (.bool f.2)) →
        (senv g r true false .off (symTab w0.heap.size (D.s1 i (D.cnt i)).vals) (oldOf W) facts).OK := fun hg hr hf =>
      senv_ok (fun b hb => hB1 b (hg b hb)) (fun b hb => hB2 b (hr b hb)) hD.sp hD.sq (fun _ => hD.el1 i _ hlt) (fun h => by cases h) trivial hf
    have next : ∀ {c c' : AV}, (∀ {lc : Rx.Loc} (x : Value), VR (oneMore 20 lc (symTab w0.heap.size (D.s1 i (D.cnt i)).vals)) c x → VR (oneMore 20 lc (symTab w0.heap.size (D.s1 (i + 1) (D.cnt (i + 1))).vals)) (.ex (.sym 6)) x) → ∀ a' w', Stand w0 (D.s1 i (D.cnt i)) nt ts (hh (inc 5) c) a' w' →
        (hh (inc 5) c).length = (hh (.ex (.sym 5)) (.ex (.sym 6))).length → (D.gd i && D.rd i) = true → wpC Tryz.prog none (.loop la) la Q a' w' := by
      intro c c' hc a' w' hst hlen hgo
      refine ih (i + 1) (by omega) (fun j hj => ?_) a' w' (hst.re rfl rfl rfl rfl hlen fun lc j v v' hv hv' x hx => ?_)
      · rcases Nat.lt_or_ge j i with h | h
        · exact hgood j h
        · obtain rfl : j = i := by omega
          exact hgo
      · exact O.turns (fun x hx => cv_inc (k := 5) (n := i) (by decide) rfl rfl (by have := hD.hn; omega) hx) (fun x hx => hc x hx) (D.s1_turn) j v v' hv hv' x hx
    have hcl := D.cnt_le i
    have hn := hD.hn
    cases hgd : D.gd i with
    | false =>
      obtain ⟨ρ, hr⟩ := hs.sr (g := some false) (r := none) (in1 := true) (in2 := false) (cl := .off) (facts := [(more, true)]) hD.cs hW
      refine ret_core (mk (fun b hb => by rw [hgd]; exact hb) (fun b hb => by cases hb) (one_fact hmore)) (O.bad1 _ _ none) hr hs.2.2.1 fun a' w' h1 h2 h3 => ?_
      exact hbad i hlt (by rw [hgd]; rfl) a' w' h1 h2 h3
    | true =>
      cases hrd : D.rd i with
      | false =>
        obtain ⟨ρ, hr⟩ := hs.sr (g := some true) (r := some false) (in1 := true) (in2 := false) (cl := .off) (facts := [(more, true)]) hD.cs hW
        refine ret_core (mk (fun b hb => by rw [hgd]; exact hb) (fun b hb => by rw [hrd]; exact hb) (one_fact hmore)) (O.bad2 _ _) hr hs.2.2.1 fun a' w' h1 h2 h3 => ?_
        exact hbad i hlt (by rw [hgd, hrd]; rfl) a' w' h1 h2 h3
      | true =>
        have hgo : (D.gd i && D.rd i) = true := by rw [hgd, hrd]; rfl
        by_cases h2 : (D.P i).kd = 2
        · have hf : num2.ev (symTab w0.heap.size (D.s1 i (D.cnt i)).vals) = some (.bool true) := cmp_ev (k := 9) (n := (D.P i).kd) rfl (by simp [cmpInt, h2])
          obtain ⟨ρ, hr⟩ := hs.sr (g := some true) (r := some true) (in1 := true) (in2 := false) (cl := .off) (facts := [(num2, true), (more, true)]) hD.cs hW
          refine seg_core (mk (fun b hb => by rw [hgd]; exact hb) (fun b hb => by rw [hrd]; exact hb) (two_facts hf hmore)) O.ok.1 (O.go2 _ _) hr hs.2.2.1 fun a' w' e ρ' xr hst => ?_
          cases e with
          | normal =>
            refine next (c' := .unk) (fun x hx => cv_inc (k := 6) (n := D.cnt i) (by decide) rfl ?_ (by omega) hx) a' w' hst (O.len _ _ _ _) hgo
            show some (Value.int .i64 ((D.cnt i + D.num i : Nat) : Int)) = _
            simp [FD.num, h2]
          | _ => exact xr.elim
        · have hf2 : num2.ev (symTab w0.heap.size (D.s1 i (D.cnt i)).vals) = some (.bool false) := cmp_ev (k := 9) (n := (D.P i).kd) rfl (by simp [cmpInt, h2])
          by_cases h3 : (D.P i).kd = 3
          · have hf : num3.ev (symTab w0.heap.size (D.s1 i (D.cnt i)).vals) = some (.bool true) := cmp_ev (k := 9) (n := (D.P i).kd) rfl (by simp [cmpInt, h3])
            obtain ⟨ρ, hr⟩ := hs.sr (g := some true) (r := some true) (in1 := true) (in2 := false) (cl := .off) (facts := [(num2, false), (num3, true), (more, true)]) hD.cs hW
            refine seg_core (mk (fun b hb => by rw [hgd]; exact hb) (fun b hb => by rw [hrd]; exact hb) (cons_fact hf2 (two_facts hf hmore))) O.ok.1 (O.go3 _ _) hr hs.2.2.1 fun a' w' e ρ' xr hst => ?_
            cases e with
            | normal =>
              refine next (c' := .unk) (fun x hx => cv_inc (k := 6) (n := D.cnt i) (by decide) rfl ?_ (by omega) hx) a' w' hst (O.len _ _ _ _) hgo
              show some (Value.int .i64 ((D.cnt i + D.num i : Nat) : Int)) = _
              simp [FD.num, h3]
            | _ => exact xr.elim
          · have hf : num3.ev (symTab w0.heap.size (D.s1 i (D.cnt i)).vals) = some (.bool false) := cmp_ev (k := 9) (n := (D.P i).kd) rfl (by simp [cmpInt, h3])
            obtain ⟨ρ, hr⟩ := hs.sr (g := some true) (r := some true) (in1 := true) (in2 := false) (cl := .off) (facts := [(num2, false), (num3, false), (more, true)]) hD.cs hW
            refine seg_core (mk (fun b hb => by rw [hgd]; exact hb) (fun b hb => by rw [hrd]; exact hb) (cons_fact hf2 (two_facts hf hmore))) O.ok.2 (O.go0 _ _) hr hs.2.2.1 fun a' w' e ρ' xr hst => ?_
            cases e with
            | normal =>
              refine next (c' := .unk) (fun x hx => cv_sym (k := 6) (v := .int .i64 (D.cnt i)) (by decide) rfl ?_ hx) a' w' hst (O.len _ _ _ _) hgo
              show some (Value.int .i64 ((D.cnt i + D.num i : Nat) : Int)) = _
              simp [FD.num, h2, h3]
            | _ => exact xr.elim
end Go.Proofs.YtiamenedboifeabGreatDoor

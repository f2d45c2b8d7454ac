/- Both makers of a piece s element answer nodes of one tree. -/
import Derived.Test.YtkeibmkcgnppeaaGreatDoorZFe
import Derived.Test.YtkeibmkcgnppeaaGreatDoorZRd
import Derived.Test.YtkeibmkcgnppeaaGreatDoorZEnv
import Derived.Lib.ItoaNum
import Derived.WalkKit
import Derived.Deep.AppendLies
namespace Go.Proofs.YtkeibmkcgnppeaaGreatDoor
open Go Go.Proofs.YtkeibmkcgnppeaaGreatDoor.Rx
set_option maxRecDepth 100000
def isStr (ts : T Ty) : AV → Bool
  | .lit (.string _) => true
  | .ex e => match tyOf ts e with
    | some .str => true
    | _ => false
  | _ => false
def strOf (σ : Rx.Place) : AV → ByteArray
  | .lit (.string s) => s
  | .ex e => match e.ev σ with
    | some (.string s) => s
    | _ => ⟨#[]⟩
  | _ => ⟨#[]⟩
theorem isStr_ok {ts : T Ty} {σ ρ : Rx.Place} (hty : ∀ k t, ts.get k = some t → ∃ l, σ k = some l ∧ hasTy l.val t = true) (hle : σ.le ρ) {a : AV} (h : isStr ts a = true) {v : Value} (hv : VR ρ a v) : v = .string (strOf σ a) := by
  unfold isStr at h
  split at h
  · simpa only [VR, strOf] using hv
  · rename_i e
    split at h
    · rename_i ht
      obtain ⟨x, h1, h2⟩ := tyOf_ok hty e _ ht
      obtain ⟨s, rfl⟩ := hasTy_str h2
      simp only [VR] at hv
      have h3 := Exp.ev_mono hle h1
      rw [hv.1, Option.some.injEq] at h3
      subst h3
      simp only [strOf, h1]
    · cases h
  · cases h
structure AN where
  elem : Bool
  t : AV
  s : AV
  l : AV
  ats : List (AV × AV × AV)
  kid : Option AV
def attrsOf (cs : T AV) (off : Nat) : Nat → List (AV × AV × AV)
  | 0 => []
  | k + 1 => (cellOf cs off, cellOf cs (off + 1), cellOf cs (off + 2)) :: attrsOf cs (off + 3) k
def readA (M : Mem) : AV → Option (List (AV × AV × AV))
  | .lit (.slice none 0 0) => some []
  | .slice b off len _ _ => match M.bl.get b with
    | some (.cells _ n cs _ _ _) => match Nat.ble (off + 3 * len) n && Nat.ble len 100 with
      | true => some (attrsOf cs off len)
      | false => none
    | _ => none
  | _ => none
def isEmptyStr : AV → Bool
  | .lit (.string s) => Nat.beq s.size 0
  | _ => false
def isNoSlice : AV → Bool
  | .lit (.slice none 0 0) => true
  | _ => false
def isFalse : AV → Bool
  | .lit (.bool false) => true
  | _ => false
def readK (M : Mem) : AV → Option (Option AV)
  | .lit (.slice none 0 0) => some none
  | .slice b off 1 _ _ => match M.bl.get b with
    | some (.cells _ n cs _ _ _) => match Nat.ble (off + 6) n && isFalse (cellOf cs off) && isEmptyStr (cellOf cs (off + 2)) && isEmptyStr (cellOf cs (off + 3)) && isNoSlice (cellOf cs (off + 4)) && isNoSlice (cellOf cs (off + 5)) with
      | true => some (some (cellOf cs (off + 1)))
      | false => none
    | _ => none
  | _ => none
def readN (ts : T Ty) (M : Mem) : List AV → Option AN
  | [.lit (.bool e), t, s, l, va, vk] => match readA M va, readK M vk with
    | some ats, some kid => match isStr ts t && isStr ts s && isStr ts l && ats.all (fun a => isStr ts a.1 && isStr ts a.2.1 && isStr ts a.2.2) && (match kid with | some x => isStr ts x | none => true) with
      | true => some ⟨e, t, s, l, ats, kid⟩
      | false => none
    | _, _ => none
  | _ => none
def treeOf (σ : Rx.Place) (a : AN) : Tree :=
  .mk a.elem (strOf σ a.t) (strOf σ a.s) (strOf σ a.l) (a.ats.map fun x => (strOf σ x.1, strOf σ x.2.1, strOf σ x.2.2)) (match a.kid with
    | some x => [.mk false (strOf σ x) ⟨#[]⟩ ⟨#[]⟩ [] []]
    | none => [])
def Held (ρ : Rx.Place) (M : Mem) : Nat → Prop := fun b => ∃ x ab lc, M.bl.get x = some ab ∧ ρ x = some lc ∧ lc.blk = b
theorem attrsOf_len (cs : T AV) : ∀ (k off : Nat), (attrsOf cs off k).length = k
  | 0, _ => rfl
  | k + 1, off => by simp [attrsOf, attrsOf_len cs k]
theorem attrsOf_get (cs : T AV) : ∀ (k off j : Nat) (h : j < (attrsOf cs off k).length), (attrsOf cs off k)[j] = (cellOf cs (off + 3 * j), cellOf cs (off + 3 * j + 1), cellOf cs (off + 3 * j + 2))
  | 0, _, j, h => by simp [attrsOf] at h
  | k + 1, off, 0, h => by simp [attrsOf]
  | k + 1, off, j + 1, h => by
    simp only [attrsOf, List.getElem_cons_succ]
    rw [attrsOf_get cs k (off + 3) j]
    have : off + 3 + 3 * j = off + 3 * (j + 1) := by omega
    rw [this]
theorem known_cell {E : Env} {base : Nat} {ρ : Rx.Place} {M : Mem} {w : World} (hc : Cons E base ρ M w) {b e n : Nat} {cs : T AV} {row : Bool} {fz : Nat} {back : Bool} {lc : Rx.Loc}
    (hb : M.bl.get b = some (.cells e n cs row fz back)) (hl : ρ b = some lc) {i : Nat} (hi : i < n) : lc.off = 0 ∧ ∃ v, w.cell? ⟨lc.blk, lc.off + i, none⟩ = some v ∧ VR ρ (cellOf cs i) v := by
  obtain ⟨l, hl', arr, lo, hi', h1, h0, h2, h3, h4, h5, h6⟩ := hc.blk b _ hb
  rw [hl, Option.some.injEq] at hl'
  subst hl'
  obtain ⟨v, hv, hr⟩ := h5 i hi
  exact ⟨h0, v, by simp only [World.cell?, h1]; simpa using hv, hr⟩
section
variable {E : Env} {base : Nat} {ρ : Rx.Place} {M : Mem} {w : World}
theorem readA_ok (hc : Cons E base ρ M w) {ts : T Ty} {σ : Rx.Place} (hty : ∀ k t, ts.get k = some t → ∃ l, σ k = some l ∧ hasTy l.val t = true) (hle : σ.le ρ) {va : AV} {ats : List (AV × AV × AV)} (h : readA M va = some ats)
    (hs : ats.all (fun a => isStr ts a.1 && isStr ts a.2.1 && isStr ts a.2.2) = true) {v : Value} (hv : VR ρ va v) : ats.length < 4611686018427387904 ∧ AttrsIs w (Held ρ M) v (ats.map fun x => (strOf σ x.1, strOf σ x.2.1, strOf σ x.2.2)) := by
  unfold readA at h
  split at h
  · simp only [Option.some.injEq] at h
    subst h
    simp only [VR] at hv
    subst hv
    exact ⟨by simp, ⟨_, _, rfl⟩, fun j hj => absurd hj (Nat.not_lt_zero _)⟩
  · rename_i b off len c e
    split at h
    · rename_i e' n cs row fz back hb
      split at h
      · rename_i hbl
        simp only [Bool.and_eq_true, Nat.ble_eq] at hbl
        have hlen := hbl.2
        have hbl := hbl.1
        simp only [Option.some.injEq] at h
        subst h
        simp only [VR] at hv
        obtain ⟨lc, c', hlc, rfl, _⟩ := hv
        have hl := attrsOf_len cs len off
        refine ⟨by rw [hl]; omega, ⟨_, c', by rw [List.length_map, hl]⟩, fun j hj => ?_⟩
        rw [List.length_map] at hj
        have hj' : j < len := by rw [hl] at hj; exact hj
        have hg := attrsOf_get cs len off j hj
        have hall := List.all_eq_true.1 hs _ (List.getElem_mem hj)
        simp only [hg, Bool.and_eq_true] at hall
        refine ⟨lc.blk, lc.off + off, len, c', rfl, ⟨b, _, lc, hb, hlc, rfl⟩, ?_⟩
        obtain ⟨h0, v0, k0, r0⟩ := known_cell hc hb hlc (i := off + 3 * j) (by omega)
        obtain ⟨_, v1, k1, r1⟩ := known_cell hc hb hlc (i := off + 3 * j + 1) (by omega)
        obtain ⟨_, v2, k2, r2⟩ := known_cell hc hb hlc (i := off + 3 * j + 2) (by omega)
        have e0 := isStr_ok hty hle hall.1.1 r0
        have e1 := isStr_ok hty hle hall.1.2 r1
        have e2 := isStr_ok hty hle hall.2 r2
        subst e0 e1 e2
        have a0 : lc.off + off + 3 * j = lc.off + (off + 3 * j) := by omega
        have a1 : lc.off + off + 3 * j + 1 = lc.off + (off + 3 * j + 1) := by omega
        have a2 : lc.off + off + 3 * j + 2 = lc.off + (off + 3 * j + 2) := by omega
        simp only [rowAt, List.range_succ, List.range_zero, List.nil_append, List.cons_append, List.map_cons, List.map_nil, Nat.add_zero, List.getElem_map, hg]
        rw [a1, a2, a0, k0, k1, k2]
      · cases h
    · cases h
  · cases h
theorem emptyStr_ok {a : AV} (h : isEmptyStr a = true) {v : Value} (hv : VR ρ a v) : v = .string ⟨#[]⟩ := by
  unfold isEmptyStr at h
  split at h
  · rename_i s
    have h := Nat.eq_of_beq_eq_true h
    simp only [VR] at hv
    rw [hv]
    congr 1
    apply ByteArray.ext
    exact Array.eq_empty_of_size_eq_zero h
  · cases h
theorem noSlice_ok {a : AV} (h : isNoSlice a = true) {v : Value} (hv : VR ρ a v) : v = .slice none 0 0 := by
  unfold isNoSlice at h
  split at h
  · simpa only [VR] using hv
  · cases h
theorem isFalse_ok {a : AV} (h : isFalse a = true) {v : Value} (hv : VR ρ a v) : v = .bool false := by
  unfold isFalse at h
  split at h
  · simpa only [VR] using hv
  · cases h
theorem readN_ok (hc : Cons E base ρ M w) {ts : T Ty} {σ : Rx.Place} (hty : ∀ k t, ts.get k = some t → ∃ l, σ k = some l ∧ hasTy l.val t = true) (hle : σ.le ρ) {row : List AV} {an : AN} (h : readN ts M row = some an)
    {vs : List Value} (hv : VRs ρ row vs) : ∃ x0 x1 x2 x3 x4 x5, vs = [x0, x1, x2, x3, x4, x5] ∧ NodeIs w (Held ρ M) (treeOf σ an) [some x0, some x1, some x2, some x3, some x4, some x5] := by
  unfold readN at h
  split at h
  · rename_i e t s l va vk
    simp only [VRs] at hv
    obtain ⟨x0, _, rfl, h0, x1, _, rfl, h1, x2, _, rfl, h2, x3, _, rfl, h3, x4, _, rfl, h4, x5, _, rfl, h5, rfl⟩ := hv
    refine ⟨x0, x1, x2, x3, x4, x5, rfl, ?_⟩
    split at h
    · rename_i ats kid hA hK
      split at h
      · rename_i hall
        simp only [Bool.and_eq_true] at hall
        simp only [Option.some.injEq] at h
        subst h
        simp only [VR] at h0
        have e1 := isStr_ok hty hle hall.1.1.1.1 h1
        have e2 := isStr_ok hty hle hall.1.1.1.2 h2
        have e3 := isStr_ok hty hle hall.1.1.2 h3
        subst h0 e1 e2 e3
        obtain ⟨hlen, hat⟩ := readA_ok hc hty hle hA hall.1.2 h4
        unfold readK at hK
        split at hK
        · simp only [Option.some.injEq] at hK
          subst hK
          simp only [VR] at h5
          subst h5
          exact .mk e _ _ _ _ [] x4 none 0 (by rw [List.length_map]; exact hlen) (by simp) hat (fun e => absurd rfl e) (fun b off e => by cases e)
        · rename_i b off c ez
          split at hK
          · rename_i e' n cs rw' fz back hb
            split at hK
            · rename_i hbl
              simp only [Bool.and_eq_true, Nat.ble_eq] at hbl
              simp only [Option.some.injEq] at hK
              subst hK
              simp only [VR] at h5
              obtain ⟨lc, c', hlc, rfl, _⟩ := h5
              refine .mk e _ _ _ _ [_] x4 _ c' (by rw [List.length_map]; exact hlen) (by simp) hat (fun _ => ⟨lc.blk, lc.off + off, rfl, ⟨b, _, lc, hb, hlc, rfl⟩⟩) (fun b1 off1 e1 j hj => ?_)
              cases e1
              have hj0 : j = 0 := by simpa using hj
              subst hj0
              have hn := hbl.1.1.1.1.1
              obtain ⟨hz, v0, k0, r0⟩ := known_cell hc hb hlc (i := off) (by omega)
              obtain ⟨_, v1, k1, r1⟩ := known_cell hc hb hlc (i := off + 1) (by omega)
              obtain ⟨_, v2, k2, r2⟩ := known_cell hc hb hlc (i := off + 2) (by omega)
              obtain ⟨_, v3, k3, r3⟩ := known_cell hc hb hlc (i := off + 3) (by omega)
              obtain ⟨_, v4, k4, r4⟩ := known_cell hc hb hlc (i := off + 4) (by omega)
              obtain ⟨_, v5, k5, r5⟩ := known_cell hc hb hlc (i := off + 5) (by omega)
              have z0 := isFalse_ok hbl.1.1.1.1.2 r0
              have z1 := isStr_ok hty hle hall.2 r1
              have z2 := emptyStr_ok hbl.1.1.1.2 r2
              have z3 := emptyStr_ok hbl.1.1.2 r3
              have z4 := noSlice_ok hbl.1.2 r4
              have z5 := noSlice_ok hbl.2 r5
              subst z0 z1 z2 z3 z4 z5
              have hr : rowAt w lc.blk (lc.off + off + 6 * 0) 6 = [some (.bool false), some (.string (strOf σ (cellOf cs (off + 1)))), some (.string ⟨#[]⟩), some (.string ⟨#[]⟩), some (.slice none 0 0), some (.slice none 0 0)] := by
                simp only [rowAt, List.range_succ, List.range_zero, List.nil_append, List.cons_append, List.map_cons, List.map_nil, Nat.add_zero, Nat.mul_zero, Nat.add_assoc]
                rw [k0, k1, k2, k3, k4, k5]
              rw [hr]
              exact .mk false _ _ _ [] [] (.slice none 0 0) none 0 (by simp) (by simp) ⟨⟨_, _, rfl⟩, fun j hj => absurd hj (Nat.not_lt_zero _)⟩ (fun e => absurd rfl e) (fun b off e => by cases e)
            · cases hK
          · cases hK
        · cases hK
      · cases h
    · cases h
  · cases h
end
def nodeAns (ts : T Ty) : Option Out → Option AN
  | some (.call (.ret (.agg row)) M) => readN ts M row
  | _ => none
def High (B : Nat) : Nat → Prop := fun b => B ≤ b
theorem sym_node {E : Env} (OK : E.OK) {k : Nat} {f : FuncId} {args : List AV} {n b : Nat} {an : AN} (h : nodeAns E.tys (eval E k (.call (.fn f) args ⟨n, .leaf⟩)) = some an) (w : World)
    {l : List Value} (hsy : E.sy = symTab b l) (hb : b ≤ w.heap.size) (hn : l.length ≤ n) (hs : E.Still b w) {vals : List Value} (ha : VRs (symTab b l) args vals) :
    Calls E.P f vals.toArray w fun e w' => ∃ x0 x1 x2 x3 x4 x5, e = .returned (.agg #[x0, x1, x2, x3, x4, x5]) ∧ NodeIs w' (High w.heap.size) (treeOf (symTab b l) an) [some x0, some x1, some x2, some x3, some x4, some x5] ∧ RowKit.Below w.heap.size w w' := by
  unfold nodeAns at h
  split at h
  · rename_i row M hM
    have hcall : callOf (eval E k) (.fn f) args ⟨n, .leaf⟩ = some (.ret (.agg row), M) := by
      unfold callOf
      rw [hM]
    have hc := Cons.syms (n := n) hsy hn hs
    have := (eval_ok OK b k).2.1 (.fn f) _ ⟨n, .leaf⟩ _ M hcall (symTab b l) w vals hc hb ha
    refine Calls.mono this fun e w' he => ?_
    obtain ⟨ρ', k1, k2⟩ := he
    cases e with
    | returned v =>
      simp only [EndR, VR] at k2
      obtain ⟨a, rfl, hvs⟩ := k2
      have hle : (symTab b l).le ρ' := by rw [← hsy]; exact k1.cons.sym
      obtain ⟨x0, x1, x2, x3, x4, x5, h1, h2⟩ := readN_ok k1.cons (ts := E.tys) (σ := symTab b l) (by rw [← hsy]; exact OK.ty) hle h hvs
      refine ⟨x0, x1, x2, x3, x4, x5, ?_, ?_, ⟨k1.os, k1.tape, k1.output, k1.size, fun i hi => k1.frame i hi fun b x lc hx => by simp at hx⟩⟩
      · have : a = #[x0, x1, x2, x3, x4, x5] := Array.ext' (by rw [h1])
        rw [this]
      · refine h2.sub fun c hc => ?_
        obtain ⟨x, ab, lc, g1, g2, rfl⟩ := hc
        rcases k1.img x ab lc g1 g2 with hge | ⟨b0, x0, l0, q1, _⟩
        · exact hge
        · simp at q1
    | _ => exact k2.elim
  · cases h
def AV.sameL : List (AV × AV × AV) → List (AV × AV × AV) → Bool
  | [], [] => true
  | a :: r, b :: q => match a.1.same b.1 && a.2.1.same b.2.1 && a.2.2.same b.2.2 with
    | true => AV.sameL r q
    | false => false
  | _, _ => false
theorem AV.sameL_ok : ∀ {a b : List (AV × AV × AV)}, AV.sameL a b = true → a = b
  | [], [], _ => rfl
  | (a1, a2, a3) :: r, (b1, b2, b3) :: q, h => by
    simp only [AV.sameL] at h
    split at h
    · rename_i h1
      simp only [Bool.and_eq_true] at h1
      rw [AV.same_ok h1.1.1, AV.same_ok h1.1.2, AV.same_ok h1.2, AV.sameL_ok h]
    · cases h
  | [], _ :: _, h => by simp [AV.sameL] at h
  | _ :: _, [], h => by simp [AV.sameL] at h
def AN.same (a b : AN) : Bool :=
  (match a.elem, b.elem with | true, true => true | false, false => true | _, _ => false) && a.t.same b.t && a.s.same b.s && a.l.same b.l && AV.sameL a.ats b.ats && (match a.kid, b.kid with
    | none, none => true
    | some x, some y => x.same y
    | _, _ => false)
theorem AN.same_ok {a b : AN} (h : a.same b = true) : a = b := by
  obtain ⟨e, t, s, l, ats, kid⟩ := a
  obtain ⟨e', t', s', l', as', kid'⟩ := b
  simp only [AN.same, Bool.and_eq_true] at h
  obtain ⟨⟨⟨⟨⟨h0, h1⟩, h2⟩, h3⟩, h4⟩, h5⟩ := h
  rw [AV.same_ok h1, AV.same_ok h2, AV.same_ok h3, AV.sameL_ok h4]
  have he : e = e' := by cases e <;> cases e' <;> first | rfl | cases h0
  have hk : kid = kid' := by
    cases kid <;> cases kid' <;> first | rfl | (rw [AV.same_ok h5]) | cases h5
  rw [he, hk]
def okN : Option AN → Option AN → Bool
  | some a, some b => a.same b
  | _, _ => false
theorem okN_ok {a b : Option AN} (h : okN a b = true) : ∃ x, a = some x ∧ b = some x := by
  unfold okN at h
  split at h
  · rename_i x y
    exact ⟨x, rfl, by rw [AN.same_ok h]⟩
  · cases h
end Go.Proofs.YtkeibmkcgnppeaaGreatDoor
namespace Go.Proofs.YtkeibmkcgnppeaaGreatDoor
open Go Go.Proofs.YtkeibmkcgnppeaaGreatDoor.Rx
set_option maxRecDepth 100000
def qvals (k kd mn pl ex : Int) (s : ByteArray) (g l : Bool) : List Value :=
  [.int .i64 k, .int .i64 kd, .string s, .int .i64 mn, .int .i64 pl, .int .i64 ex, .bool g, .bool l, .string ⟨(Lib.itoa mn).toArray⟩, .string ⟨(Lib.itoa pl).toArray⟩, .string ⟨(Lib.itoa ex).toArray⟩]
def qtys : T Ty := T.ofList [.int .i64, .int .i64, .str, .int .i64, .int .i64, .int .i64, .bool, .bool, .str, .str, .str]
def qcon (f : FuncId) (args : List AV) : Option AV :=
  match args with
  | [.ex (.sym j)] => match Nat.beq f 21 || Nat.beq f 28 with
    | true => match j with
      | 3 => some (.ex (.sym 8))
      | 4 => some (.ex (.sym 9))
      | 5 => some (.ex (.sym 10))
      | _ => none
    | false => none
  | _ => none
noncomputable def qenv (sy : Rx.Place) (old : Nat → Option (Option Obj)) (facts : List (Exp × Bool)) : Env := env.plus qcon (fun _ _ => none) (fun _ _ => none) sy old qtys facts
def bText : Exp := .bin .eql (.sym 2) (.lit (.string ⟨#[]⟩))
def bBool : Exp := .bin .eql (.sym 0) (.lit (.int .i64 7))
def bPl : Exp := .bin .eql (.sym 4) (.lit (.int .i64 0))
def qrow (kd : Int) (t g l : AV) : AV := .agg [.lit (.int .i64 kd), t, .ex (.sym 3), .ex (.sym 4), .ex (.sym 5), g, l]
def chkQ (row k : AV) (E : Env) : Bool :=
  okN (nodeAns qtys (eval E 200 (.call (.fn 23) [row, k] ⟨16, .leaf⟩))) (nodeAns qtys (eval E 200 (.call (.fn 29) [row, k] ⟨16, .leaf⟩)))
section
variable (sy : Rx.Place) (old : Nat → Option (Option Obj))
theorem q_k1e : chkQ (qrow 1 (.lit (.string ⟨#[]⟩)) (.ex (.sym 6)) (.ex (.sym 7))) (.ex (.sym 0)) (qenv sy old []) = true := by as_aux_lemma => kernel_rfl
theorem q_k1t : chkQ (qrow 1 (.ex (.sym 2)) (.ex (.sym 6)) (.ex (.sym 7))) (.ex (.sym 0)) (qenv sy old [(bText, false)]) = true := by as_aux_lemma => kernel_rfl
theorem q_k5e : chkQ (qrow 5 (.lit (.string ⟨#[]⟩)) (.ex (.sym 6)) (.ex (.sym 7))) (.ex (.sym 0)) (qenv sy old []) = true := by as_aux_lemma => kernel_rfl
theorem q_k5t : chkQ (qrow 5 (.ex (.sym 2)) (.ex (.sym 6)) (.ex (.sym 7))) (.ex (.sym 0)) (qenv sy old [(bText, false)]) = true := by as_aux_lemma => kernel_rfl
theorem q_k2t : chkQ (qrow 2 (.ex (.sym 2)) (.lit (.bool true)) (.ex (.sym 7))) (.ex (.sym 0)) (qenv sy old []) = true := by as_aux_lemma => kernel_rfl
theorem q_k2f : chkQ (qrow 2 (.ex (.sym 2)) (.lit (.bool false)) (.ex (.sym 7))) (.ex (.sym 0)) (qenv sy old []) = true := by as_aux_lemma => kernel_rfl
theorem q_k3 : chkQ (qrow 3 (.ex (.sym 2)) (.ex (.sym 6)) (.ex (.sym 7))) (.ex (.sym 0)) (qenv sy old []) = true := by as_aux_lemma => kernel_rfl
theorem q_k4t : chkQ (qrow 4 (.ex (.sym 2)) (.ex (.sym 6)) (.ex (.sym 7))) (.lit (.int .i64 7)) (qenv sy old []) = true := by as_aux_lemma => kernel_rfl
theorem q_k4f : chkQ (qrow 4 (.ex (.sym 2)) (.ex (.sym 6)) (.ex (.sym 7))) (.ex (.sym 0)) (qenv sy old [(bBool, false)]) = true := by as_aux_lemma => kernel_rfl
theorem q_k6t : chkQ (qrow 6 (.ex (.sym 2)) (.ex (.sym 6)) (.lit (.bool true))) (.ex (.sym 0)) (qenv sy old []) = true := by as_aux_lemma => kernel_rfl
theorem q_k6f : chkQ (qrow 6 (.ex (.sym 2)) (.ex (.sym 6)) (.lit (.bool false))) (.ex (.sym 0)) (qenv sy old []) = true := by as_aux_lemma => kernel_rfl
theorem q_k7t : chkQ (qrow 7 (.ex (.sym 2)) (.ex (.sym 6)) (.lit (.bool true))) (.ex (.sym 0)) (qenv sy old []) = true := by as_aux_lemma => kernel_rfl
theorem q_k7f : chkQ (qrow 7 (.ex (.sym 2)) (.ex (.sym 6)) (.lit (.bool false))) (.ex (.sym 0)) (qenv sy old []) = true := by as_aux_lemma => kernel_rfl
theorem q_k8t : chkQ (qrow 8 (.ex (.sym 2)) (.ex (.sym 6)) (.lit (.bool true))) (.ex (.sym 0)) (qenv sy old []) = true := by as_aux_lemma => kernel_rfl
theorem q_k8f : chkQ (qrow 8 (.ex (.sym 2)) (.ex (.sym 6)) (.lit (.bool false))) (.ex (.sym 0)) (qenv sy old []) = true := by as_aux_lemma => kernel_rfl
theorem q_k9t : chkQ (qrow 9 (.ex (.sym 2)) (.ex (.sym 6)) (.lit (.bool true))) (.ex (.sym 0)) (qenv sy old []) = true := by as_aux_lemma => kernel_rfl
theorem q_k9f : chkQ (qrow 9 (.ex (.sym 2)) (.ex (.sym 6)) (.lit (.bool false))) (.ex (.sym 0)) (qenv sy old []) = true := by as_aux_lemma => kernel_rfl
theorem q_k10t : chkQ (qrow 10 (.ex (.sym 2)) (.ex (.sym 6)) (.lit (.bool true))) (.ex (.sym 0)) (qenv sy old []) = true := by as_aux_lemma => kernel_rfl
theorem q_k10f : chkQ (qrow 10 (.ex (.sym 2)) (.ex (.sym 6)) (.lit (.bool false))) (.ex (.sym 0)) (qenv sy old []) = true := by as_aux_lemma => kernel_rfl
theorem q_k11t : chkQ (qrow 11 (.ex (.sym 2)) (.ex (.sym 6)) (.lit (.bool true))) (.ex (.sym 0)) (qenv sy old []) = true := by as_aux_lemma => kernel_rfl
theorem q_k11f : chkQ (qrow 11 (.ex (.sym 2)) (.ex (.sym 6)) (.lit (.bool false))) (.ex (.sym 0)) (qenv sy old []) = true := by as_aux_lemma => kernel_rfl
theorem q_k12t : chkQ (qrow 12 (.ex (.sym 2)) (.ex (.sym 6)) (.lit (.bool true))) (.ex (.sym 0)) (qenv sy old []) = true := by as_aux_lemma => kernel_rfl
theorem q_k12f : chkQ (qrow 12 (.ex (.sym 2)) (.ex (.sym 6)) (.lit (.bool false))) (.ex (.sym 0)) (qenv sy old []) = true := by as_aux_lemma => kernel_rfl
theorem q_k13tt : chkQ (qrow 13 (.ex (.sym 2)) (.ex (.sym 6)) (.lit (.bool true))) (.ex (.sym 0)) (qenv sy old [(bPl, true)]) = true := by as_aux_lemma => kernel_rfl
theorem q_k13tf : chkQ (qrow 13 (.ex (.sym 2)) (.ex (.sym 6)) (.lit (.bool true))) (.ex (.sym 0)) (qenv sy old [(bPl, false)]) = true := by as_aux_lemma => kernel_rfl
theorem q_k13ft : chkQ (qrow 13 (.ex (.sym 2)) (.ex (.sym 6)) (.lit (.bool false))) (.ex (.sym 0)) (qenv sy old [(bPl, true)]) = true := by as_aux_lemma => kernel_rfl
theorem q_k13ff : chkQ (qrow 13 (.ex (.sym 2)) (.ex (.sym 6)) (.lit (.bool false))) (.ex (.sym 0)) (qenv sy old [(bPl, false)]) = true := by as_aux_lemma => kernel_rfl
theorem q_k14 : chkQ (qrow 14 (.ex (.sym 2)) (.ex (.sym 6)) (.lit (.bool false))) (.ex (.sym 0)) (qenv sy old []) = true := by as_aux_lemma => kernel_rfl
end
end Go.Proofs.YtkeibmkcgnppeaaGreatDoor
namespace Go.Proofs.YtkeibmkcgnppeaaGreatDoor
open Go Go.Proofs.YtkeibmkcgnppeaaGreatDoor.Rx
set_option maxRecDepth 100000
def oldOf (W : World) : Nat → Option (Option Obj) := fun k => match Nat.blt k W.heap.size with
  | true => some W.heap[k]?
  | false => none
def Later (W w : World) : Prop := W.heap.size ≤ w.heap.size ∧ ∀ k, k < W.heap.size → w.heap[k]? = W.heap[k]?
def Consts (W : World) : Prop := ∀ g off v, env.gcell g off = some v → g < W.heap.size ∧ W.cell? ⟨g, off, none⟩ = some v
theorem Later.still {W w : World} (hg : Consts W) (h : Later W w) {con : FuncId → List AV → Option AV} {opc opn : Op → (Operand → AV) → Option AV} {sy : Rx.Place} {tys : T Ty} {facts : List (Exp × Bool)} :
    (env.plus con opc opn sy (oldOf W) tys facts).Still W.heap.size w := by
  refine ⟨fun g off v hv => ?_, fun k o ho => ?_⟩
  · obtain ⟨h1, h2⟩ := hg g off v hv
    refine ⟨h1, ?_⟩
    simp only [World.cell?] at h2 ⊢
    rw [h.2 g h1]
    exact h2
  · change oldOf W k = some o at ho
    unfold oldOf at ho
    split at ho
    · rename_i hk
      simp only [Option.some.injEq] at ho
      have hk : k < W.heap.size := by simpa [Nat.blt_eq] using hk
      exact ⟨hk, by rw [h.2 k hk, ho]⟩
    · cases ho
theorem still_later {W w : World} {base : Nat} {con : FuncId → List AV → Option AV} {opc opn : Op → (Operand → AV) → Option AV} {sy : Rx.Place} {tys : T Ty} {facts : List (Exp × Bool)}
    (h : (env.plus con opc opn sy (oldOf W) tys facts).Still base w) : ∀ k, k < W.heap.size → w.heap[k]? = W.heap[k]? := fun k hk => by
  have hb : Nat.blt k W.heap.size = true := by simpa [Nat.blt_eq] using hk
  exact (h.2 k W.heap[k]? (by show oldOf W k = _; simp [oldOf, hb])).2
theorem Later.refl (W : World) : Later W W := ⟨Nat.le_refl _, fun _ _ => rfl⟩
theorem Later.below {W w w' : World} (h : Later W w) (hb : RowKit.Below w.heap.size w w') : Later W w' :=
  ⟨Nat.le_trans h.1 hb.size, fun k hk => (hb.block k (Nat.lt_of_lt_of_le hk h.1)).trans (h.2 k hk)⟩
theorem NumW.later {W w : World} {H L : Nat → Nat} (h : NumW W H L) (hl : Later W w) : NumW w H L where
  tabs := by
    have hb : ∀ w2 : World, RowKit.Below w.heap.size w w2 → RowKit.Below W.heap.size W { W with heap := w2.heap } := fun w2 h2 =>
      ⟨rfl, rfl, rfl, Nat.le_trans hl.1 h2.size, fun k hk => (h2.block k (Nat.lt_of_lt_of_le hk hl.1)).trans (hl.2 k hk)⟩
    refine ⟨?_, fun w2 h2 => ?_, Nat.lt_of_lt_of_le h.tabs.lt hl.1⟩
    · have := h.tabs.powAt (hb w (RowKit.Below.refl _ _))
      exact ⟨this.hi, this.lo⟩
    · have := h.tabs.ten { W with heap := w2.heap } (hb w2 h2)
      exact this
  most := by
    obtain ⟨m, hm⟩ := h.most
    have := h.tabs.lt
    refine ⟨m, ?_⟩
    rw [← hm]
    simp only [World.cell?]
    rw [hl.2 3 (by omega)]
theorem later_of_still {W w : World} {base : Nat} {con : FuncId → List AV → Option AV} {opc opn : Op → (Operand → AV) → Option AV} {sy : Rx.Place} {tys : T Ty} {facts : List (Exp × Bool)}
    (h : (env.plus con opc opn sy (oldOf W) tys facts).Still base w) : Later W w := by
  refine ⟨?_, still_later h⟩
  rcases Nat.lt_or_ge w.heap.size W.heap.size with hlt | hge
  · exfalso
    have h1 := still_later h w.heap.size hlt
    rw [Array.getElem?_eq_none (Nat.le_refl _), Array.getElem?_eq_getElem hlt] at h1
    cases h1
  · exact hge
structure Ground (W : World) (H L : Nat → Nat) : Prop where
  cs : Consts W
  num : NumW W H L
def NodeRet (w : World) (t : Tree) (e : Ending) (w' : World) : Prop :=
  ∃ el tx sp lc p1 n1 m1 p2 n2 m2, e = .returned (.agg #[.bool el, .string tx, .string sp, .string lc, .slice p1 n1 m1, .slice p2 n2 m2]) ∧
    NodeIs w' (High w.heap.size) t [some (.bool el), some (.string tx), some (.string sp), some (.string lc), some (.slice p1 n1 m1), some (.slice p2 n2 m2)] ∧ RowKit.Below w.heap.size w w'
theorem NodeIs.shape {w : World} {S : Nat → Prop} {t : Tree} {x0 x1 x2 x3 x4 x5 : Value} (h : NodeIs w S t [some x0, some x1, some x2, some x3, some x4, some x5]) :
    ∃ el tx sp lc p1 n1 m1 p2 n2 m2, x0 = .bool el ∧ x1 = .string tx ∧ x2 = .string sp ∧ x3 = .string lc ∧ x4 = .slice p1 n1 m1 ∧ x5 = .slice p2 n2 m2 := by
  cases h with
  | mk elem text space loc attrs kids va p m hal hkl ha hp hk =>
    obtain ⟨⟨p1, m1, rfl⟩, _⟩ := ha
    exact ⟨_, _, _, _, _, _, _, _, _, _, rfl, rfl, rfl, rfl, rfl, rfl⟩
def prow (k mn pl ex : Int) (s : ByteArray) (g l : Bool) : Value := .agg #[.int .i64 k, .string s, .int .i64 mn, .int .i64 pl, .int .i64 ex, .bool g, .bool l]
theorem qtys_ok {b : Nat} {k kd mn pl ex : Int} {s : ByteArray} {g l : Bool} : ∀ i t, qtys.get i = some t → ∃ lc, symTab b (qvals k kd mn pl ex s g l) i = some lc ∧ hasTy lc.val t = true := by
  intro i t h
  unfold qtys at h
  rw [T.get_ofList] at h
  match i, h with
  | 0, h | 1, h | 2, h | 3, h | 4, h | 5, h | 6, h | 7, h | 8, h | 9, h | 10, h =>
    simp at h
    subst h
    exact ⟨_, rfl, rfl⟩
  | i + 11, h => simp at h
theorem ex_sym_VR {σ ρ : Rx.Place} (hle : σ.le ρ) {j : Nat} {v : Value} (h : (Exp.sym j).ev σ = some v) (h1 : v.oneCell' = true) : VR ρ (.ex (.sym j)) v := by
  simp only [VR]
  exact ⟨Exp.ev_mono hle h, h1⟩
section
variable {W : World} {H L : Nat → Nat} {k kd mn pl ex : Int} {s : ByteArray} {g l : Bool}
theorem qenv_ok (hW : Ground W H L) (hm0 : -9223372036854775808 ≤ mn) (hm1 : mn ≤ 9223372036854775807) (hp0 : -9223372036854775808 ≤ pl) (hp1 : pl ≤ 9223372036854775807) (hx0 : -9223372036854775808 ≤ ex) (hx1 : ex ≤ 9223372036854775807)
    {facts : List (Exp × Bool)} (hf : ∀ f ∈ facts, f.1.ev (symTab W.heap.size (qvals k kd mn pl ex s g l)) = some (.bool f.2)) :
    (qenv (symTab W.heap.size (qvals k kd mn pl ex s g l)) (oldOf W) facts).OK := by
  refine env_ok.plus ?_ (fun _ _ _ h => by cases h) (fun _ _ _ h => by cases h) qtys_ok hf
  intro f args v hv base ρ w vals hst hle hbase ha
  have hl := later_of_still hst
  have hn := hW.num.later hl
  have one : ∀ (n : Int), -9223372036854775808 ≤ n → n ≤ 9223372036854775807 → ∀ (j i : Nat), (Exp.sym j).ev (symTab W.heap.size (qvals k kd mn pl ex s g l)) = some (.int .i64 n) → (Exp.sym i).ev (symTab W.heap.size (qvals k kd mn pl ex s g l)) = some (.string ⟨(Lib.itoa n).toArray⟩) →
      (f = 21 ∨ f = 28) → VRs ρ [.ex (.sym j)] vals → Calls Tryz.prog f vals.toArray w fun e w' => ∃ x, e = .returned x ∧ VR ρ (.ex (.sym i)) x ∧ RowKit.Below w.heap.size w w' := by
    intro n h0 h1 j i hj hi hf ha
    simp only [VRs, VR] at ha
    obtain ⟨x, _, rfl, ⟨hx, _⟩, rfl⟩ := ha
    have hx2 := Exp.ev_mono hle hj
    rw [hx, Option.some.injEq] at hx2
    subst hx2
    rcases hf with rfl | rfl
    · refine Calls.mono (save_digits n h0 h1 w hn) fun e w' he => ?_
      exact ⟨_, he.1, ex_sym_VR hle hi rfl, he.2⟩
    · refine Calls.mono (rcount_call n h0 h1 w hn) fun e w' he => ?_
      exact ⟨_, he.1, ex_sym_VR hle hi rfl, he.2⟩
  unfold qcon at hv
  split at hv
  · rename_i j
    split at hv
    · rename_i hfb
      have hf2 : f = 21 ∨ f = 28 := by
        simp only [Bool.or_eq_true] at hfb
        rcases hfb with h | h
        · exact .inl (Nat.eq_of_beq_eq_true h)
        · exact .inr (Nat.eq_of_beq_eq_true h)
      split at hv
      · simp only [Option.some.injEq] at hv; subst hv; exact one mn hm0 hm1 3 8 rfl rfl hf2 ha
      · simp only [Option.some.injEq] at hv; subst hv; exact one pl hp0 hp1 4 9 rfl rfl hf2 ha
      · simp only [Option.some.injEq] at hv; subst hv; exact one ex hx0 hx1 5 10 rfl rfl hf2 ha
      · cases hv
    · cases hv
  · cases hv
def BothNode (W : World) (f g : FuncId) (args : Array Value) (t : Tree) : Prop :=
  ∀ w, Later W w → Calls Tryz.prog f args w (NodeRet w t) ∧ Calls Tryz.prog g args w (NodeRet w t)
theorem q_fin (hW : Ground W H L) (hm0 : -9223372036854775808 ≤ mn) (hm1 : mn ≤ 9223372036854775807) (hp0 : -9223372036854775808 ≤ pl) (hp1 : pl ≤ 9223372036854775807) (hx0 : -9223372036854775808 ≤ ex) (hx1 : ex ≤ 9223372036854775807)
    {row ka : AV} {facts : List (Exp × Bool)} (h : ∀ sy old, chkQ row ka (qenv sy old facts) = true)
    (hf : ∀ f ∈ facts, f.1.ev (symTab W.heap.size (qvals k kd mn pl ex s g l)) = some (.bool f.2))
    (hr : VR (symTab W.heap.size (qvals k kd mn pl ex s g l)) row (prow kd mn pl ex s g l)) (hk : VR (symTab W.heap.size (qvals k kd mn pl ex s g l)) ka (.int .i64 k)) :
    ∃ t, BothNode W 23 29 #[prow kd mn pl ex s g l, .int .i64 k] t := by
  obtain ⟨an, h1, h2⟩ := okN_ok (h (symTab W.heap.size (qvals k kd mn pl ex s g l)) (oldOf W))
  have OK := qenv_ok (k := k) (kd := kd) (s := s) (g := g) (l := l) hW hm0 hm1 hp0 hp1 hx0 hx1 hf
  have hv : VRs (symTab W.heap.size (qvals k kd mn pl ex s g l)) [row, ka] [prow kd mn pl ex s g l, .int .i64 k] := by
    simp only [VRs]
    exact ⟨_, _, rfl, hr, _, _, rfl, hk, rfl⟩
  have fin : ∀ {w : World} {e : Ending} {w' : World}, (∃ x0 x1 x2 x3 x4 x5, e = .returned (.agg #[x0, x1, x2, x3, x4, x5]) ∧ NodeIs w' (High w.heap.size) (treeOf (symTab W.heap.size (qvals k kd mn pl ex s g l)) an) [some x0, some x1, some x2, some x3, some x4, some x5] ∧ RowKit.Below w.heap.size w w') →
      NodeRet w (treeOf (symTab W.heap.size (qvals k kd mn pl ex s g l)) an) e w' := by
    rintro w e w' ⟨x0, x1, x2, x3, x4, x5, rfl, hn, hb⟩
    obtain ⟨el, tx, sp, lc, p1, n1, m1, p2, n2, m2, rfl, rfl, rfl, rfl, rfl, rfl⟩ := hn.shape
    exact ⟨el, tx, sp, lc, p1, n1, m1, p2, n2, m2, rfl, hn, hb⟩
  refine ⟨treeOf (symTab W.heap.size (qvals k kd mn pl ex s g l)) an, fun w hw => ⟨?_, ?_⟩⟩
  · exact Calls.mono (sym_node OK h1 w rfl hw.1 (show 11 ≤ 16 by decide) (hw.still hW.cs) hv) fun e w' he => fin he
  · exact Calls.mono (sym_node OK h2 w rfl hw.1 (show 11 ≤ 16 by decide) (hw.still hW.cs) hv) fun e w' he => fin he
theorem qrow_ok {b : Nat} {t ga la : AV} (ht : VR (symTab b (qvals k kd mn pl ex s g l)) t (.string s)) (hg : VR (symTab b (qvals k kd mn pl ex s g l)) ga (.bool g)) (hl : VR (symTab b (qvals k kd mn pl ex s g l)) la (.bool l)) :
    VR (symTab b (qvals k kd mn pl ex s g l)) (qrow kd t ga la) (prow kd mn pl ex s g l) := by
  simp only [qrow, VR, prow]
  refine ⟨_, rfl, ?_⟩
  simp only [VRs]
  refine ⟨_, _, rfl, by simp only [VR], _, _, rfl, ht, _, _, rfl, ?_, _, _, rfl, ?_, _, _, rfl, ?_, _, _, rfl, hg, _, _, rfl, hl, rfl⟩
  all_goals exact ex_sym_VR (fun _ _ h => h) rfl rfl
theorem piece_tree (hW : Ground W H L) (hm0 : -9223372036854775808 ≤ mn) (hm1 : mn ≤ 9223372036854775807) (hp0 : -9223372036854775808 ≤ pl) (hp1 : pl ≤ 9223372036854775807) (hx0 : -9223372036854775808 ≤ ex) (hx1 : ex ≤ 9223372036854775807)
    (h1 : 1 ≤ kd) (h14 : kd ≤ 14) (hl : kd = 14 → l = false) : ∃ t, BothNode W 23 29 #[prow kd mn pl ex s g l, .int .i64 k] t := by
  have fin := @q_fin W H L k kd mn pl ex s g l hW hm0 hm1 hp0 hp1 hx0 hx1
  have lit : ∀ {b : Nat} {v : Value}, VR (symTab b (qvals k kd mn pl ex s g l)) (.lit v) v := by intro b v; simp only [VR]
  have sy : ∀ {b j : Nat} {v : Value}, (Exp.sym j).ev (symTab b (qvals k kd mn pl ex s g l)) = some v → v.oneCell' = true → VR (symTab b (qvals k kd mn pl ex s g l)) (.ex (.sym j)) v := fun h h' => ex_sym_VR (fun _ _ h => h) h h'
  have none' : ∀ f ∈ ([] : List (Exp × Bool)), f.1.ev (symTab W.heap.size (qvals k kd mn pl ex s g l)) = some (.bool f.2) := fun _ h => by cases h
  have one : ∀ {e : Exp} {b : Bool}, e.ev (symTab W.heap.size (qvals k kd mn pl ex s g l)) = some (.bool b) → ∀ f ∈ [(e, b)], f.1.ev (symTab W.heap.size (qvals k kd mn pl ex s g l)) = some (.bool f.2) := by
    intro e b h f hf
    rw [List.mem_singleton] at hf
    subst hf
    exact h
  have hK : VR (symTab W.heap.size (qvals k kd mn pl ex s g l)) (.ex (.sym 0)) (.int .i64 k) := sy rfl rfl
  have hS : VR (symTab W.heap.size (qvals k kd mn pl ex s g l)) (.ex (.sym 2)) (.string s) := sy rfl rfl
  have hG : VR (symTab W.heap.size (qvals k kd mn pl ex s g l)) (.ex (.sym 6)) (.bool g) := sy rfl rfl
  have hL : VR (symTab W.heap.size (qvals k kd mn pl ex s g l)) (.ex (.sym 7)) (.bool l) := sy rfl rfl
  have hLl : ∀ {b : Bool}, l = b → VR (symTab W.heap.size (qvals k kd mn pl ex s g l)) (.lit (.bool b)) (.bool l) := fun h => by rw [h]; simp only [VR]
  have hGl : ∀ {b : Bool}, g = b → VR (symTab W.heap.size (qvals k kd mn pl ex s g l)) (.lit (.bool b)) (.bool g) := fun h => by rw [h]; simp only [VR]
  have text : s ≠ ⟨#[]⟩ → bText.ev (symTab W.heap.size (qvals k kd mn pl ex s g l)) = some (.bool false) := fun hs => by
    have h1 : (Exp.sym 2).ev (symTab W.heap.size (qvals k kd mn pl ex s g l)) = some (.string s) := rfl
    simp only [bText, Exp.ev] at h1 ⊢
    rw [h1]
    have h2 : (s.toList == (⟨#[]⟩ : ByteArray).toList) = false := by
      rw [beq_eq_false_iff_ne]
      intro h
      rw [ByteArray.toList_eq, ByteArray.toList_eq] at h
      exact hs (ByteArray.ext (Array.ext' h))
    show pure0 (Op.stringOp .eql s ⟨#[]⟩) = _
    simp only [Op.stringOp, pure, pure0, h2]
  have sE : s = ⟨#[]⟩ → VR (symTab W.heap.size (qvals k kd mn pl ex s g l)) (.lit (.string ⟨#[]⟩)) (.string s) := fun h => by rw [h]; simp only [VR]
  have plF : ∀ b, decide (pl = 0) = b → bPl.ev (symTab W.heap.size (qvals k kd mn pl ex s g l)) = some (.bool b) := fun b hb => by
    have h1 : (Exp.sym 4).ev (symTab W.heap.size (qvals k kd mn pl ex s g l)) = some (.int .i64 pl) := rfl
    simp only [bPl, Exp.ev] at h1 ⊢
    rw [h1]
    exact cmpInt_ev (by simp only [cmpInt, hb])
  have cases14 : kd = 1 ∨ kd = 2 ∨ kd = 3 ∨ kd = 4 ∨ kd = 5 ∨ kd = 6 ∨ kd = 7 ∨ kd = 8 ∨ kd = 9 ∨ kd = 10 ∨ kd = 11 ∨ kd = 12 ∨ kd = 13 ∨ kd = 14 := by omega
  rcases cases14 with rfl | rfl | rfl | rfl | rfl | rfl | rfl | rfl | rfl | rfl | rfl | rfl | rfl | rfl
  · by_cases hs : s = ⟨#[]⟩
    · exact fin q_k1e none' (qrow_ok (sE hs) hG hL) hK
    · exact fin q_k1t (one (text hs)) (qrow_ok hS hG hL) hK
  · cases hg : g with
    | true => rw [← hg]; exact fin q_k2t none' (qrow_ok hS (hGl hg) hL) hK
    | false => rw [← hg]; exact fin q_k2f none' (qrow_ok hS (hGl hg) hL) hK
  · exact fin q_k3 none' (qrow_ok hS hG hL) hK
  · by_cases h7 : k = 7
    · exact fin q_k4t none' (qrow_ok hS hG hL) (by rw [h7]; simp only [VR])
    · refine fin q_k4f (one ?_) (qrow_ok hS hG hL) hK
      have h1 : (Exp.sym 0).ev (symTab W.heap.size (qvals k 4 mn pl ex s g l)) = some (.int .i64 k) := rfl
      simp only [bBool, Exp.ev] at h1 ⊢
      rw [h1]
      exact cmpInt_ev (by simp only [cmpInt, decide_eq_false h7])
  · by_cases hs : s = ⟨#[]⟩
    · exact fin q_k5e none' (qrow_ok (sE hs) hG hL) hK
    · exact fin q_k5t (one (text hs)) (qrow_ok hS hG hL) hK
  · cases hl' : l with
    | true => rw [← hl']; exact fin q_k6t none' (qrow_ok hS hG (hLl hl')) hK
    | false => rw [← hl']; exact fin q_k6f none' (qrow_ok hS hG (hLl hl')) hK
  · cases hl' : l with
    | true => rw [← hl']; exact fin q_k7t none' (qrow_ok hS hG (hLl hl')) hK
    | false => rw [← hl']; exact fin q_k7f none' (qrow_ok hS hG (hLl hl')) hK
  · cases hl' : l with
    | true => rw [← hl']; exact fin q_k8t none' (qrow_ok hS hG (hLl hl')) hK
    | false => rw [← hl']; exact fin q_k8f none' (qrow_ok hS hG (hLl hl')) hK
  · cases hl' : l with
    | true => rw [← hl']; exact fin q_k9t none' (qrow_ok hS hG (hLl hl')) hK
    | false => rw [← hl']; exact fin q_k9f none' (qrow_ok hS hG (hLl hl')) hK
  · cases hl' : l with
    | true => rw [← hl']; exact fin q_k10t none' (qrow_ok hS hG (hLl hl')) hK
    | false => rw [← hl']; exact fin q_k10f none' (qrow_ok hS hG (hLl hl')) hK
  · cases hl' : l with
    | true => rw [← hl']; exact fin q_k11t none' (qrow_ok hS hG (hLl hl')) hK
    | false => rw [← hl']; exact fin q_k11f none' (qrow_ok hS hG (hLl hl')) hK
  · cases hl' : l with
    | true => rw [← hl']; exact fin q_k12t none' (qrow_ok hS hG (hLl hl')) hK
    | false => rw [← hl']; exact fin q_k12f none' (qrow_ok hS hG (hLl hl')) hK
  · by_cases hz : pl = 0
    · cases hl' : l with
      | true => rw [← hl']; exact fin q_k13tt (one (plF true (decide_eq_true hz))) (qrow_ok hS hG (hLl hl')) hK
      | false => rw [← hl']; exact fin q_k13ft (one (plF true (decide_eq_true hz))) (qrow_ok hS hG (hLl hl')) hK
    · cases hl' : l with
      | true => rw [← hl']; exact fin q_k13tf (one (plF false (decide_eq_false hz))) (qrow_ok hS hG (hLl hl')) hK
      | false => rw [← hl']; exact fin q_k13ff (one (plF false (decide_eq_false hz))) (qrow_ok hS hG (hLl hl')) hK
  · exact fin q_k14 none' (qrow_ok hS hG (hLl (hl rfl))) hK
end
end Go.Proofs.YtkeibmkcgnppeaaGreatDoor
namespace Go.Proofs.YtkeibmkcgnppeaaGreatDoor
open Go Go.RowKit
set_option maxRecDepth 100000
def rowOf (cs : List Value) (j : Nat) : List (Option Value) := ((cs.drop (6 * j)).take 6).map some
structure KidsIs (w : World) (B : Nat) (v : Value) (cs : List Value) (ts : List Tree) : Prop where
  own : w.ownsRow B 49 6 v ts.length cs
  big : B ≤ w.heap.size
  node : ∀ j (h : j < ts.length), NodeIs w (fun b => B ≤ b ∧ b < w.heap.size ∧ some b ≠ v.ownBlock) ts[j] (rowOf cs j)
theorem KidsIs.nil {w : World} {B : Nat} (h : B ≤ w.heap.size) : KidsIs w B (.slice none 0 0) [] [] :=
  ⟨World.ownsRow_nil _ _ _ _, h, fun j hj => absurd hj (Nat.not_lt_zero _)⟩
theorem KidsIs.keep {w w' : World} {B : Nat} {v : Value} {cs : List Value} {ts : List Tree} (h : KidsIs w B v cs ts) (hs : w.heap.size ≤ w'.heap.size) (hk : ∀ b, B ≤ b → b < w.heap.size → w'.heap[b]? = w.heap[b]?) : KidsIs w' B v cs ts := by
  refine ⟨⟨h.own.1, ?_⟩, Nat.le_trans h.big hs, fun j hj => ?_⟩
  · rcases h.own.2 with h0 | ⟨g, cap, cur, h1, h2, h3, h4⟩
    · exact .inl h0
    · have hlt : g < w.heap.size := by
        rcases Nat.lt_or_ge g w.heap.size with h | h
        · exact h
        · rw [Array.getElem?_eq_none h] at h3; cases h3
      exact .inr ⟨g, cap, cur, h1, h2, by rw [hk g h2 hlt]; exact h3, h4⟩
  · refine ((h.node j hj).same fun b hb => hk b hb.1 hb.2.1).sub fun b hb => ⟨hb.1, Nat.lt_of_lt_of_le hb.2.1 hs, hb.2.2⟩
theorem rowOf_append_old {cs : List Value} {ts : List Tree} (hl : cs.length = ts.length * 6) {j : Nat} (hj : j < ts.length) (news : List Value) : rowOf (cs ++ news) j = rowOf cs j := by
  unfold rowOf
  rw [List.drop_append_of_le_length (by omega), List.take_append_of_le_length (by simp; omega)]
theorem rowOf_append_new {cs : List Value} {ts : List Tree} (hl : cs.length = ts.length * 6) {news : List Value} (hn : news.length = 6) : rowOf (cs ++ news) ts.length = news.map some := by
  unfold rowOf
  rw [List.drop_append, List.drop_eq_nil_of_le (by omega), List.nil_append, show 6 * ts.length - cs.length = 0 by omega, List.drop_zero, List.take_of_length_le (by omega)]
theorem NodeIs.inside {w : World} {S : Nat → Prop} {t : Tree} {r : List (Option Value)} (h : NodeIs w S t r) : NodeIs w (fun b => S b ∧ b < w.heap.size) t r := by
  have lt : ∀ {b off n : Nat} {x : Value} {l : List (Option Value)}, rowAt w b off (n + 1) = some x :: l → b < w.heap.size := by
    intro b off n x l h
    have h0 : (rowAt w b off (n + 1))[0]? = some (w.cell? ⟨b, off, none⟩) := by simp [rowAt]
    rw [h] at h0
    simp only [List.getElem?_cons_zero, Option.some.injEq] at h0
    exact World.block_lt_of_cell? w ⟨b, off, none⟩ h0.symm
  induction h with
  | mk elem text space loc attrs kids va p m hal hkl ha hp hk ih =>
    refine .mk elem text space loc attrs kids va p m hal hkl ⟨ha.1, fun j hj => ?_⟩ (fun hne => ?_) ih
    · obtain ⟨b, off, n, m', h1, h2, h3⟩ := ha.2 j hj
      exact ⟨b, off, n, m', h1, ⟨h2, lt h3⟩, h3⟩
    · obtain ⟨b, off, h1, h2⟩ := hp hne
      refine ⟨b, off, h1, h2, ?_⟩
      have hpos : 0 < kids.length := List.length_pos_iff.2 hne
      have k0 := hk b off h1 0 hpos
      generalize hr : rowAt w b (off + 6 * 0) 6 = r at k0
      generalize kids[0] = t0 at k0
      cases k0
      exact lt hr
theorem KidsIs.next {w0 w1 w2 w3 : World} {B C : Nat} {v : Value} {cs : List Value} {ts : List Tree} (h : KidsIs w0 B v cs ts) {t : Tree} {x0 x1 x2 x3 x4 x5 : Value}
    (h01 : w0.heap.size ≤ C) (hC : C ≤ w1.heap.size) (hk1 : ∀ b, b < w0.heap.size → w1.heap[b]? = w0.heap[b]?)
    (hn : NodeIs w1 (High C) t [some x0, some x1, some x2, some x3, some x4, some x5])
    (h12 : w1.heap.size ≤ w2.heap.size) (hk2 : ∀ b, b < w1.heap.size → w2.heap[b]? = w1.heap[b]?)
    {g cap : Nat} (hown : w3.ownsRow B 49 6 (.slice (some ⟨g, 0, none⟩) (ts.length + 1) cap) (ts.length + 1) (cs ++ [x0, x1, x2, x3, x4, x5])) (hg : w2.grownBy w3 v.ownBlock) (hat : v.ownBlock = some g ∨ g = w2.heap.size) :
    KidsIs w3 B (.slice (some ⟨g, 0, none⟩) (ts.length + 1) cap) (cs ++ [x0, x1, x2, x3, x4, x5]) (ts ++ [t]) := by
  have hv : ∀ {b}, v.ownBlock = some b → b < w0.heap.size := fun hb => (h.own.lt _ hb).2
  have hsz := hg.size
  have hbig := h.big
  refine ⟨by simpa using hown, by omega, fun j hj => ?_⟩
  rw [List.length_append, List.length_singleton] at hj
  show NodeIs w3 (fun b => B ≤ b ∧ b < w3.heap.size ∧ some b ≠ some g) _ _
  rcases Nat.lt_or_ge j ts.length with hlt | hge
  · rw [List.getElem_append_left hlt, rowOf_append_old (ts := ts) (by rw [h.own.1]) hlt]
    refine ((h.node j hlt).same fun b hb => ?_).sub fun b hb => ⟨hb.1, by omega, fun e => ?_⟩
    · rw [hg.block b (by omega) hb.2.2, hk2 b (by omega), hk1 b hb.2.1]
    · cases e
      rcases hat with hat | hat
      · exact hb.2.2 hat.symm
      · omega
  · obtain rfl : j = ts.length := by omega
    rw [List.getElem_append_right (Nat.le_refl _), rowOf_append_new (ts := ts) (by rw [h.own.1]) rfl]
    simp only [Nat.sub_self, List.getElem_cons_zero, List.map_cons, List.map_nil]
    refine (hn.inside.same fun b hb => ?_).sub fun b hb => ⟨?_, ?_, fun e => ?_⟩
    · have h1 : C ≤ b := hb.1
      have h2 := hb.2
      rw [hg.block b (by omega) (fun e => by have := hv e.symm; omega), hk2 b hb.2]
    · have : C ≤ b := hb.1
      omega
    · have h2 := hb.2
      omega
    · have h1 : C ≤ b := hb.1
      have h2 := hb.2
      cases e
      rcases hat with hat | hat
      · have := hv hat; omega
      · omega
end Go.Proofs.YtkeibmkcgnppeaaGreatDoor
namespace Go.Proofs.YtkeibmkcgnppeaaGreatDoor
open Go Go.RowKit
set_option maxRecDepth 100000
structure PieceD where
  kd : Int
  tx : ByteArray
  mn : Int
  pl : Int
  ex : Int
  gr : Bool
  lo : Bool
structure MapD where
  o : Nat
  vl : Nat
  ap : Int
  tx : ByteArray
structure FmtIn where
  k : Nat
  wh : Bool
  n : Nat
  m : Nat
  pa : Option Addr
  pc : Nat
  qa : Option Addr
  qc : Nat
  PD : Nat → PieceD
  MD : Nat → MapD
  pt : Nat → Tree
def PieceD.cells (p : PieceD) : List Value := [.int .i64 p.kd, .string p.tx, .int .i64 p.mn, .int .i64 p.pl, .int .i64 p.ex, .bool p.gr, .bool p.lo]
def MapD.cells (q : MapD) : List Value := [.int .i64 (18 + q.o), .float .f64 q.vl, .int .i64 q.ap]
def FmtIn.arg (F : FmtIn) : Value := .agg #[.int .i64 F.k, .slice F.pa F.n F.pc, .slice F.qa F.m F.qc, .bool F.wh]
structure FmtIn.OK (F : FmtIn) (W : World) (H L : Nat → Nat) : Prop where
  g : Ground W H L
  k7 : F.k < 8
  wh : F.wh = true → F.k = 5
  n64 : F.n ≤ 64
  m8 : F.m ≤ 8
  pcell : ∀ i, i < F.n → ∃ b off, F.pa = some ⟨b, off, none⟩ ∧ b < W.heap.size ∧ W.rangeAt b (off + i * 7) (F.PD i).cells
  pnode : ∀ i, i < F.n → BothNode W 23 29 #[.agg (F.PD i).cells.toArray, .int .i64 F.k] (F.pt i)
  qcell : ∀ j, j < F.m → ∃ b off, F.qa = some ⟨b, off, none⟩ ∧ b < W.heap.size ∧ W.rangeAt b (off + j * 3) (F.MD j).cells
  qtx : ∀ j, j < F.m → (F.MD j).tx.size ≤ 600 ∧ (∀ w, NumW w H L → Calls Tryz.prog 24 #[.float .f64 (F.MD j).vl] w fun o w' => o = .returned (.string (F.MD j).tx) ∧ Below w.heap.size w w') ∧
    ∀ w, NumW w H L → Calls Tryz.prog 30 #[.float .f64 (F.MD j).vl] w fun o w' => o = .returned (.string (F.MD j).tx) ∧ Below w.heap.size w w'
  op : ∀ j, j < F.m → (F.MD j).o < 6
  ap : ∀ j, j < F.m → -9223372036854775808 ≤ (F.MD j).ap ∧ (F.MD j).ap ≤ 9223372036854775807
  chk : ∀ w, Later W w → (Calls Tryz.prog 18 #[F.arg, .int .i64 256] w fun e w' => e = .returned (.int .i64 0) ∧ Below w.heap.size w w') ∧
    Calls Tryz.prog 25 #[F.arg, .int .i64 256] w fun e w' => e = .returned (.int .i64 0) ∧ Below w.heap.size w w'
def kname : Nat → ByteArray
  | 2 => ⟨#[112, 101, 114, 99, 101, 110, 116, 97, 103, 101, 45, 115, 116, 121, 108, 101]⟩
  | 3 => ⟨#[99, 117, 114, 114, 101, 110, 99, 121, 45, 115, 116, 121, 108, 101]⟩
  | 4 => ⟨#[100, 97, 116, 101, 45, 115, 116, 121, 108, 101]⟩
  | 5 => ⟨#[116, 105, 109, 101, 45, 115, 116, 121, 108, 101]⟩
  | 6 => ⟨#[116, 101, 120, 116, 45, 115, 116, 121, 108, 101]⟩
  | 7 => ⟨#[98, 111, 111, 108, 101, 97, 110, 45, 115, 116, 121, 108, 101]⟩
  | _ => ⟨#[110, 117, 109, 98, 101, 114, 45, 115, 116, 121, 108, 101]⟩
def sign : Nat → ByteArray
  | 0 => ⟨#[61]⟩
  | 1 => ⟨#[33, 61]⟩
  | 2 => ⟨#[60]⟩
  | 3 => ⟨#[60, 61]⟩
  | 4 => ⟨#[62]⟩
  | _ => ⟨#[62, 61]⟩
end Go.Proofs.YtkeibmkcgnppeaaGreatDoor

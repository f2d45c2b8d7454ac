/- What a world holds; small laws. -/
import Derived.Test.YtkeibmkcgnppeaaGreatDoorProg
import Derived.Ground.NamesProg
import Derived.Shelf.Unicode.ValidAny
import Derived.Lib.LaidU8T
import Derived.Test.YtkeibmkcgnppeaaGreatDoorZEnv
import Derived.Test.YtkeibmkcgnppeaaGreatDoorZRd
import Derived.ProofKit
import Derived.Lib.SmallJoins
import Derived.Laws.Cover2
import Derived.Deep.Slices
import Derived.Lib.Agree
import Derived.WalkKit
import Derived.Test.YtkeibmkcgnppeaaGreatDoorZFd
import Derived.Lib.ItoaNum
import Derived.Lib.ItoaLen
import Derived.Laws.CopyOwn
import Derived.Laws.Tables
import Derived.Deep.AppendLies
import Derived.OrdersHeld
import Derived.Deep.RegionHeld
set_option maxHeartbeats 32000000
set_option linter.unusedSimpArgs false
set_option linter.unusedVariables false
namespace Go.Proofs
open Go.RowKit Go.Shelf Go.Lib
def Tryz.laysValid_ren : Go.Shelf.Ren := ⟨fun | 196 => 84 | 259 => 134 | n => n, fun | 9 => 9 | 4 => 4 | 3 => 3 | 5 => 5 | 12 => 12 | 119 => 188 | 0 => 0 | 46 => 192 | 139 => 191 | 138 => 190 | 53 => 155 | n => n, fun | 3 => 1 | 4 => 2 | n => n⟩
theorem Tryz.laysValid : Go.Proofs.Lays.n196 Tryz.prog Tryz.laysValid_ren := {
  mixed := by kernel_rfl
  f196 := Tryz.func84.trans (congrArg some (by kernel_rfl))
  f259 := Tryz.func134.trans (congrArg some (by kernel_rfl))
  t0 := Tryz.underlying0
  a0 := Tryz.isAgg0
  z0 := Tryz.sizeOf0
  v0 := Tryz.zeroValue0
  t3 := Tryz.underlying3
  a3 := Tryz.isAgg3
  z3 := Tryz.sizeOf3
  v3 := Tryz.zeroValue3
  t4 := Tryz.underlying4
  a4 := Tryz.isAgg4
  z4 := Tryz.sizeOf4
  v4 := Tryz.zeroValue4
  t5 := Tryz.underlying5
  a5 := Tryz.isAgg5
  z5 := Tryz.sizeOf5
  v5 := Tryz.zeroValue5
  t9 := Tryz.underlying9
  a9 := Tryz.isAgg9
  z9 := Tryz.sizeOf9
  v9 := Tryz.zeroValue9
  t12 := Tryz.underlying12
  a12 := Tryz.isAgg12
  z12 := Tryz.sizeOf12
  v12 := Tryz.zeroValue12
  t46 := Tryz.underlying192
  a46 := Tryz.isAgg192
  z46 := Tryz.sizeOf192
  v46 := Tryz.zeroValue192
  t53 := Tryz.underlying155
  a53 := Tryz.isAgg155
  z53 := Tryz.sizeOf155
  v53 := Tryz.zeroValue155
  t119 := Tryz.underlying188
  a119 := Tryz.isAgg188
  z119 := Tryz.sizeOf188
  t138 := Tryz.underlying190
  a138 := Tryz.isAgg190
  z138 := Tryz.sizeOf190
  v138 := Tryz.zeroValue190
  t139 := Tryz.underlying191
  a139 := Tryz.isAgg191
  z139 := Tryz.sizeOf191
  v139 := Tryz.zeroValue191
  g3 := by kernel_rfl
  g4 := by kernel_rfl }
namespace YtkeibmkcgnppeaaGreatDoor.Ck
def Tabs (w : World) : Prop := Lib.Utf8Tabs (Tryz.laysValid_ren.g 3) (Tryz.laysValid_ren.g 4) w
theorem tabs_of {w : World} (h3 : VarReads Tryz.prog w "unicode/utf8.first" firstData) (h4 : VarReads Tryz.prog w "unicode/utf8.acceptRanges" acceptData) : Tabs w :=
  utf8Tabs_of_readsT (U8Types.of196 Tryz.laysValid) ⟨by kernel_rfl, by kernel_rfl, by kernel_rfl, by kernel_rfl, by kernel_rfl, by kernel_rfl, by kernel_rfl⟩ h3 h4
theorem Tabs.of_heap {w w' : World} (h : Tabs w) (hk : ∀ k, k < w.heap.size → w'.heap[k]? = w.heap[k]?) : Tabs w' := by
  have one : ∀ {a : Addr} {v : Value}, w.cell? a = some v → w'.cell? a = some v := by
    intro a v hc
    rcases Nat.lt_or_ge a.block w.heap.size with h' | h'
    · simp only [World.cell?] at hc ⊢
      rw [hk _ h']
      exact hc
    · simp [World.cell?, Array.getElem?_eq_none h'] at hc
  exact ⟨fun c hc => one (h.1 c hc), fun i hi => ⟨one (h.2 i hi).1, one (h.2 i hi).2⟩⟩
end YtkeibmkcgnppeaaGreatDoor.Ck
end Go.Proofs
namespace Go.Proofs.YtkeibmkcgnppeaaGreatDoor.Ck
open Go Go.Proofs.YtkeibmkcgnppeaaGreatDoor.Rx
set_option maxRecDepth 100000
def oldOf (W : World) : Nat → Option (Option Obj) := fun k => match Nat.blt k W.heap.size with
  | true => some W.heap[k]?
  | false => none
def Later (W w : World) : Prop := W.heap.size ≤ w.heap.size ∧ ∀ k, k < W.heap.size → w.heap[k]? = W.heap[k]?
def Consts (W : World) : Prop := ∀ g off v, env.gcell g off = some v → g < W.heap.size ∧ W.cell? ⟨g, off, none⟩ = some v
theorem Later.still {W w : World} (hg : Consts W) (h : Later W w) {con : FuncId → List AV → Option AV} {opc opn : Op → (Operand → AV) → Option AV} {sy : Rx.Place} {tys : T Ty} {facts : List (Exp × Bool)} :
    (env.plus con opc opn sy (oldOf W) tys facts).Still W.heap.size w := by
  refine ⟨fun g off v hv => ?_, fun k o ho => ?_⟩
  · obtain ⟨h1, h2⟩ := hg g off v hv
    refine ⟨h1, ?_⟩
    simp only [World.cell?] at h2 ⊢
    rw [h.2 g h1]
    exact h2
  · change oldOf W k = some o at ho
    unfold oldOf at ho
    split at ho
    · rename_i hk
      simp only [Option.some.injEq] at ho
      have hk : k < W.heap.size := by simpa [Nat.blt_eq] using hk
      exact ⟨hk, by rw [h.2 k hk, ho]⟩
    · cases ho
def Both (W : World) (f g : FuncId) (args : Array Value) (r : Bool) : Prop :=
  ∀ w, Later W w → Calls Tryz.prog f args w (fun e w' => e = .returned (.bool r) ∧ RowKit.Below w.heap.size w w') ∧ Calls Tryz.prog g args w (fun e w' => e = .returned (.bool r) ∧ RowKit.Below w.heap.size w w')
theorem one_fact {σ : Rx.Place} {e : Exp} {b : Bool} (h : e.ev σ = some (.bool b)) : ∀ f ∈ [(e, b)], f.1.ev σ = some (.bool f.2) := by
  intro f hf
  rw [List.mem_singleton] at hf
  subst hf
  exact h
theorem two_facts {σ : Rx.Place} {e e' : Exp} {b b' : Bool} (h : e.ev σ = some (.bool b)) (h' : e'.ev σ = some (.bool b')) : ∀ f ∈ [(e, b), (e', b')], f.1.ev σ = some (.bool f.2) := by
  intro f hf
  rcases List.mem_cons.1 hf with rfl | hf
  · exact h
  · exact one_fact h' f hf
open Go Go.Proofs.YtkeibmkcgnppeaaGreatDoor.Rx
set_option maxRecDepth 100000
theorem ex_val {ρ : Rx.Place} {b : Nat} {l : List Value} (hle : (symTab b l).le ρ) {k : Nat} {v x : Value} (hk : l[k]? = some v) (h : VR ρ (.ex (.sym k)) x) : x = v := by
  simp only [VR] at h
  have h1 : (Exp.sym k).ev (symTab b l) = some v := by
    simp only [Exp.ev, symTab, hk]
  have h2 := Exp.ev_mono hle h1
  rw [h.1, Option.some.injEq] at h2
  exact h2
theorem ex_VR {ρ : Rx.Place} {b : Nat} {l : List Value} (hle : (symTab b l).le ρ) {k : Nat} {v : Value} (hk : l[k]? = some v) (h1 : v.oneCell' = true) : VR ρ (.ex (.sym k)) v := by
  simp only [VR]
  refine ⟨Exp.ev_mono hle ?_, h1⟩
  simp only [Exp.ev, symTab, hk]
theorem Later.range {W w : World} (h : Later W w) {b off : Nat} {cs : List Value} (hb : b < W.heap.size) (hr : W.rangeAt b off cs) : w.rangeAt b off cs := by
  intro j v hj
  have := hr j v hj
  simp only [World.cell?] at this ⊢
  rw [h.2 b hb]
  exact this
open Go Go.Proofs.YtkeibmkcgnppeaaGreatDoor.Rx
set_option maxRecDepth 100000
def isFn (f : Nat) : AV → Bool
  | .lit (.func (.func h) a b) => Nat.beq h f && a.toList.isEmpty && b.toList.isEmpty
  | _ => false
theorem isFn_ok {f : Nat} {a : AV} {ρ : Rx.Place} {x : Value} (h : isFn f a = true) (hx : VR ρ a x) : x = .func (.func f) #[] #[] := by
  unfold isFn at h
  split at h
  · simp only [Bool.and_eq_true, List.isEmpty_iff] at h
    obtain ⟨⟨h1, h2⟩, h3⟩ := h
    have h1 := Nat.eq_of_beq_eq_true h1
    have h2 := Array.toList_eq_nil_iff.1 h2
    have h3 := Array.toList_eq_nil_iff.1 h3
    subst h1 h2 h3
    simpa only [VR] using hx
  · cases h
section
variable (sy : Rx.Place) (old : Nat → Option (Option Obj))
end
open Go Go.Proofs.YtkeibmkcgnppeaaGreatDoor.Rx Go.ChangeShapes Go.WideShapes Go.ChangeAt Go.RowKit
set_option maxRecDepth 100000
theorem cells3 : Tryz.prog.cellsOf 3 = 1 := by kernel_rfl
theorem cells9 : Tryz.prog.cellsOf 9 = 1 := by kernel_rfl
theorem cells4 : Tryz.prog.cellsOf 4 = 1 := by kernel_rfl
theorem cells28 : Tryz.prog.cellsOf 22 = 1 := by kernel_rfl
theorem trod_float {H : Type} {enc : TypeId × Value → H} {P : Program} {w : World} {base : Nat} {spare : Nat → Bool} {held : Bool} {fuel : Nat} {t : TypeId} {cs : List Value} {x : DataW H × List MemPlace} {k : FloatKind}
    (ht : P.underlying t = some (.float k)) (h : DataW.trod enc P w base spare held fuel t cs = some x) : ∃ b, cs = [.float k b] ∧ x = (.lit (.float k b), []) ∧ (Lit.float k b).wf = true := by
  cases fuel with
  | zero => simp [DataW.trod] at h
  | succ n =>
    unfold DataW.trod at h
    rw [ht] at h
    split at h <;> simp_all
theorem cells_range {W : World} {base : Nat} {a : Addr} {n : Nat} {cs : List Value} (h : W.cells? base a n = some cs) (hn : 0 < n) : ∃ b off, a = ⟨b, off, none⟩ ∧ b < W.heap.size ∧ W.rangeAt b off cs := by
  unfold World.cells? at h
  split at h
  · have hget : ∀ i, i < n → ∃ v, cs[i]? = some v ∧ W.cell? (a.add i) = some v := by
      intro i hi
      have hl := mapM_some_length h
      rw [List.length_range] at hl
      have := mapM_some_get h i i (by rw [List.getElem?_range hi])
      have hlt : i < cs.length := by omega
      refine ⟨cs[i], List.getElem?_eq_getElem hlt, ?_⟩
      rw [this, List.getElem?_eq_getElem hlt]
    obtain ⟨b, off, sp⟩ := a
    obtain ⟨v0, _, h0⟩ := hget 0 hn
    have hsp : sp = none := by
      cases sp with
      | none => rfl
      | some q =>
        simp only [Addr.add, World.cell?] at h0
        split at h0 <;> simp at h0
    subst hsp
    refine ⟨b, off, rfl, ?_, fun j v hj => ?_⟩
    · rcases Nat.lt_or_ge b W.heap.size with hb | hb
      · exact hb
      · rw [add_plain] at h0
        simp [World.cell?, Array.getElem?_eq_none hb] at h0
    · have hl := mapM_some_length h
      rw [List.length_range] at hl
      have hjl : j < n := by
        rcases Nat.lt_or_ge j cs.length with hb | hb
        · omega
        · rw [List.getElem?_eq_none hb] at hj; cases hj
      obtain ⟨v', h1, h2⟩ := hget j hjl
      rw [hj, Option.some.injEq] at h1
      subst h1
      rw [add_plain] at h2
      exact h2
  · cases h
open Go Go.Proofs.YtkeibmkcgnppeaaGreatDoor.Rx
set_option maxRecDepth 100000
def saysB (b : Bool) : Option Value → Bool
  | some (.bool x) => decide (x = b)
  | _ => false
theorem saysB_ok {b : Bool} {o : Option Value} (h : saysB b o = true) : o = some (.bool b) := by
  unfold saysB at h
  split at h
  · rw [of_decide_eq_true h]
  · cases h
section
variable (sy : Rx.Place) (old : Nat → Option (Option Obj))
end
section
variable (sy : Rx.Place) (old : Nat → Option (Option Obj))
end
end Go.Proofs.YtkeibmkcgnppeaaGreatDoor.Ck
namespace Go.Proofs.YtkeibmkcgnppeaaGreatDoor
open Go Go.RowKit
set_option maxRecDepth 100000
def rowAt (w : World) (b off n : Nat) : List (Option Value) := (List.range n).map fun k => w.cell? ⟨b, off + k, none⟩
def AttrsIs (w : World) (S : Nat → Prop) (v : Value) (xs : List (ByteArray × ByteArray × ByteArray)) : Prop :=
  (∃ p m, v = .slice p xs.length m) ∧
  ∀ j (h : j < xs.length), ∃ b off n m, v = .slice (some ⟨b, off, none⟩) n m ∧ S b ∧
    rowAt w b (off + 3 * j) 3 = [some (.string xs[j].1), some (.string xs[j].2.1), some (.string xs[j].2.2)]
theorem rowAt_same {w w' : World} {b : Nat} (h : w'.heap[b]? = w.heap[b]?) (off n : Nat) : rowAt w' b off n = rowAt w b off n := by
  unfold rowAt
  refine List.map_congr_left fun k _ => ?_
  simp only [World.cell?, h]
theorem AttrsIs.same {S : Nat → Prop} {w w' : World} (hb : ∀ b, S b → w'.heap[b]? = w.heap[b]?) {v : Value} {xs : List (ByteArray × ByteArray × ByteArray)} (h : AttrsIs w S v xs) : AttrsIs w' S v xs := by
  refine ⟨h.1, fun j hj => ?_⟩
  obtain ⟨b, off, n, m, hv, hlt, hr⟩ := h.2 j hj
  exact ⟨b, off, n, m, hv, hlt, by rw [rowAt_same (hb b hlt)]; exact hr⟩
theorem AttrsIs.sub {S S' : Nat → Prop} {w : World} (hS : ∀ b, S b → S' b) {v : Value} {xs : List (ByteArray × ByteArray × ByteArray)} (h : AttrsIs w S v xs) : AttrsIs w S' v xs :=
  ⟨h.1, fun j hj => by
    obtain ⟨b, off, n, m, hv, hlt, hr⟩ := h.2 j hj
    exact ⟨b, off, n, m, hv, hS b hlt, hr⟩⟩
def Low (B : Nat) : Nat → Prop := fun b => b < B
theorem AttrsIs.keep {B : Nat} {w w' : World} (hb : Below B w w') {v : Value} {xs : List (ByteArray × ByteArray × ByteArray)} (h : AttrsIs w (Low B) v xs) : AttrsIs w' (Low B) v xs := h.same hb.block
theorem AttrsIs.mono {B C : Nat} {w : World} (hBC : B ≤ C) {v : Value} {xs : List (ByteArray × ByteArray × ByteArray)} (h : AttrsIs w (Low B) v xs) : AttrsIs w (Low C) v xs := h.sub fun _ hb => Nat.lt_of_lt_of_le hb hBC
open Go Go.Proofs.YtkeibmkcgnppeaaGreatDoor.Rx
set_option maxRecDepth 100000
def isStr (ts : T Ty) : AV → Bool
  | .lit (.string _) => true
  | .ex e => match tyOf ts e with
    | some .str => true
    | _ => false
  | _ => false
def strOf (σ : Rx.Place) : AV → ByteArray
  | .lit (.string s) => s
  | .ex e => match e.ev σ with
    | some (.string s) => s
    | _ => ⟨#[]⟩
  | _ => ⟨#[]⟩
theorem isStr_ok {ts : T Ty} {σ ρ : Rx.Place} (hty : ∀ k t, ts.get k = some t → ∃ l, σ k = some l ∧ hasTy l.val t = true) (hle : σ.le ρ) {a : AV} (h : isStr ts a = true) {v : Value} (hv : VR ρ a v) : v = .string (strOf σ a) := by
  unfold isStr at h
  split at h
  · simpa only [VR, strOf] using hv
  · rename_i e
    split at h
    · rename_i ht
      obtain ⟨x, h1, h2⟩ := tyOf_ok hty e _ ht
      obtain ⟨s, rfl⟩ := hasTy_str h2
      simp only [VR] at hv
      have h3 := Exp.ev_mono hle h1
      rw [hv.1, Option.some.injEq] at h3
      subst h3
      simp only [strOf, h1]
    · cases h
  · cases h
def attrsOf (cs : T AV) (off : Nat) : Nat → List (AV × AV × AV)
  | 0 => []
  | k + 1 => (cellOf cs off, cellOf cs (off + 1), cellOf cs (off + 2)) :: attrsOf cs (off + 3) k
def readA (M : Mem) : AV → Option (List (AV × AV × AV))
  | .lit (.slice none 0 0) => some []
  | .slice b off len _ _ => match M.bl.get b with
    | some (.cells _ n cs _ _ _) => match Nat.ble (off + 3 * len) n && Nat.ble len 100 with
      | true => some (attrsOf cs off len)
      | false => none
    | _ => none
  | _ => none
def Held (ρ : Rx.Place) (M : Mem) : Nat → Prop := fun b => ∃ x ab lc, M.bl.get x = some ab ∧ ρ x = some lc ∧ lc.blk = b
theorem attrsOf_len (cs : T AV) : ∀ (k off : Nat), (attrsOf cs off k).length = k
  | 0, _ => rfl
  | k + 1, off => by simp [attrsOf, attrsOf_len cs k]
theorem attrsOf_get (cs : T AV) : ∀ (k off j : Nat) (h : j < (attrsOf cs off k).length), (attrsOf cs off k)[j] = (cellOf cs (off + 3 * j), cellOf cs (off + 3 * j + 1), cellOf cs (off + 3 * j + 2))
  | 0, _, j, h => by simp [attrsOf] at h
  | k + 1, off, 0, h => by simp [attrsOf]
  | k + 1, off, j + 1, h => by
    simp only [attrsOf, List.getElem_cons_succ]
    rw [attrsOf_get cs k (off + 3) j]
    have : off + 3 + 3 * j = off + 3 * (j + 1) := by omega
    rw [this]
theorem known_cell {E : Env} {base : Nat} {ρ : Rx.Place} {M : Mem} {w : World} (hc : Cons E base ρ M w) {b e n : Nat} {cs : T AV} {row : Bool} {fz : Nat} {back : Bool} {lc : Rx.Loc}
    (hb : M.bl.get b = some (.cells e n cs row fz back)) (hl : ρ b = some lc) {i : Nat} (hi : i < n) : lc.off = 0 ∧ ∃ v, w.cell? ⟨lc.blk, lc.off + i, none⟩ = some v ∧ VR ρ (cellOf cs i) v := by
  obtain ⟨l, hl', arr, lo, hi', h1, h0, h2, h3, h4, h5, h6⟩ := hc.blk b _ hb
  rw [hl, Option.some.injEq] at hl'
  subst hl'
  obtain ⟨v, hv, hr⟩ := h5 i hi
  exact ⟨h0, v, by simp only [World.cell?, h1]; simpa using hv, hr⟩
section
variable {E : Env} {base : Nat} {ρ : Rx.Place} {M : Mem} {w : World}
theorem readA_ok (hc : Cons E base ρ M w) {ts : T Ty} {σ : Rx.Place} (hty : ∀ k t, ts.get k = some t → ∃ l, σ k = some l ∧ hasTy l.val t = true) (hle : σ.le ρ) {va : AV} {ats : List (AV × AV × AV)} (h : readA M va = some ats)
    (hs : ats.all (fun a => isStr ts a.1 && isStr ts a.2.1 && isStr ts a.2.2) = true) {v : Value} (hv : VR ρ va v) : ats.length < 4611686018427387904 ∧ AttrsIs w (Held ρ M) v (ats.map fun x => (strOf σ x.1, strOf σ x.2.1, strOf σ x.2.2)) := by
  unfold readA at h
  split at h
  · simp only [Option.some.injEq] at h
    subst h
    simp only [VR] at hv
    subst hv
    exact ⟨by simp, ⟨_, _, rfl⟩, fun j hj => absurd hj (Nat.not_lt_zero _)⟩
  · rename_i b off len c e
    split at h
    · rename_i e' n cs row fz back hb
      split at h
      · rename_i hbl
        simp only [Bool.and_eq_true, Nat.ble_eq] at hbl
        have hlen := hbl.2
        have hbl := hbl.1
        simp only [Option.some.injEq] at h
        subst h
        simp only [VR] at hv
        obtain ⟨lc, c', hlc, rfl, _⟩ := hv
        have hl := attrsOf_len cs len off
        refine ⟨by rw [hl]; omega, ⟨_, c', by rw [List.length_map, hl]⟩, fun j hj => ?_⟩
        rw [List.length_map] at hj
        have hj' : j < len := by rw [hl] at hj; exact hj
        have hg := attrsOf_get cs len off j hj
        have hall := List.all_eq_true.1 hs _ (List.getElem_mem hj)
        simp only [hg, Bool.and_eq_true] at hall
        refine ⟨lc.blk, lc.off + off, len, c', rfl, ⟨b, _, lc, hb, hlc, rfl⟩, ?_⟩
        obtain ⟨h0, v0, k0, r0⟩ := known_cell hc hb hlc (i := off + 3 * j) (by omega)
        obtain ⟨_, v1, k1, r1⟩ := known_cell hc hb hlc (i := off + 3 * j + 1) (by omega)
        obtain ⟨_, v2, k2, r2⟩ := known_cell hc hb hlc (i := off + 3 * j + 2) (by omega)
        have e0 := isStr_ok hty hle hall.1.1 r0
        have e1 := isStr_ok hty hle hall.1.2 r1
        have e2 := isStr_ok hty hle hall.2 r2
        subst e0 e1 e2
        have a0 : lc.off + off + 3 * j = lc.off + (off + 3 * j) := by omega
        have a1 : lc.off + off + 3 * j + 1 = lc.off + (off + 3 * j + 1) := by omega
        have a2 : lc.off + off + 3 * j + 2 = lc.off + (off + 3 * j + 2) := by omega
        simp only [rowAt, List.range_succ, List.range_zero, List.nil_append, List.cons_append, List.map_cons, List.map_nil, Nat.add_zero, List.getElem_map, hg]
        rw [a1, a2, a0, k0, k1, k2]
      · cases h
    · cases h
  · cases h
end
def AV.sameL : List (AV × AV × AV) → List (AV × AV × AV) → Bool
  | [], [] => true
  | a :: r, b :: q => match a.1.same b.1 && a.2.1.same b.2.1 && a.2.2.same b.2.2 with
    | true => AV.sameL r q
    | false => false
  | _, _ => false
theorem AV.sameL_ok : ∀ {a b : List (AV × AV × AV)}, AV.sameL a b = true → a = b
  | [], [], _ => rfl
  | (a1, a2, a3) :: r, (b1, b2, b3) :: q, h => by
    simp only [AV.sameL] at h
    split at h
    · rename_i h1
      simp only [Bool.and_eq_true] at h1
      rw [AV.same_ok h1.1.1, AV.same_ok h1.1.2, AV.same_ok h1.2, AV.sameL_ok h]
    · cases h
  | [], _ :: _, h => by simp [AV.sameL] at h
  | _ :: _, [], h => by simp [AV.sameL] at h
open Go Go.Proofs.YtkeibmkcgnppeaaGreatDoor.Rx
set_option maxRecDepth 100000
def oldOf (W : World) : Nat → Option (Option Obj) := fun k => match Nat.blt k W.heap.size with
  | true => some W.heap[k]?
  | false => none
def Later (W w : World) : Prop := W.heap.size ≤ w.heap.size ∧ ∀ k, k < W.heap.size → w.heap[k]? = W.heap[k]?
def Consts (W : World) : Prop := ∀ g off v, env.gcell g off = some v → g < W.heap.size ∧ W.cell? ⟨g, off, none⟩ = some v
theorem Later.still {W w : World} (hg : Consts W) (h : Later W w) {con : FuncId → List AV → Option AV} {opc opn : Op → (Operand → AV) → Option AV} {sy : Rx.Place} {tys : T Ty} {facts : List (Exp × Bool)} :
    (env.plus con opc opn sy (oldOf W) tys facts).Still W.heap.size w := by
  refine ⟨fun g off v hv => ?_, fun k o ho => ?_⟩
  · obtain ⟨h1, h2⟩ := hg g off v hv
    refine ⟨h1, ?_⟩
    simp only [World.cell?] at h2 ⊢
    rw [h.2 g h1]
    exact h2
  · change oldOf W k = some o at ho
    unfold oldOf at ho
    split at ho
    · rename_i hk
      simp only [Option.some.injEq] at ho
      have hk : k < W.heap.size := by simpa [Nat.blt_eq] using hk
      exact ⟨hk, by rw [h.2 k hk, ho]⟩
    · cases ho
theorem Later.refl (W : World) : Later W W := ⟨Nat.le_refl _, fun _ _ => rfl⟩
theorem Later.below {W w w' : World} (h : Later W w) (hb : RowKit.Below w.heap.size w w') : Later W w' :=
  ⟨Nat.le_trans h.1 hb.size, fun k hk => (hb.block k (Nat.lt_of_lt_of_le hk h.1)).trans (h.2 k hk)⟩
theorem NumW.later {W w : World} {H L : Nat → Nat} (h : NumW W H L) (hl : Later W w) : NumW w H L where
  tabs := by
    have hb : ∀ w2 : World, RowKit.Below w.heap.size w w2 → RowKit.Below W.heap.size W { W with heap := w2.heap } := fun w2 h2 =>
      ⟨rfl, rfl, rfl, Nat.le_trans hl.1 h2.size, fun k hk => (h2.block k (Nat.lt_of_lt_of_le hk hl.1)).trans (hl.2 k hk)⟩
    refine ⟨?_, fun w2 h2 => ?_, Nat.lt_of_lt_of_le h.tabs.lt hl.1⟩
    · have := h.tabs.powAt (hb w (RowKit.Below.refl _ _))
      exact ⟨this.hi, this.lo⟩
    · have := h.tabs.ten { W with heap := w2.heap } (hb w2 h2)
      exact this
  most := by
    obtain ⟨m, hm⟩ := h.most
    have := h.tabs.lt
    refine ⟨m, ?_⟩
    rw [← hm]
    simp only [World.cell?]
    rw [hl.2 3 (by omega)]
structure Ground (W : World) (H L : Nat → Nat) : Prop where
  cs : Consts W
  num : NumW W H L
section
variable {W : World} {H L : Nat → Nat} {k kd mn pl ex : Int} {s : ByteArray} {g l : Bool}
end
open Go Go.RowKit
set_option maxRecDepth 100000
theorem Later.alloc {W w : World} (h : Later W w) (o : Obj) : Later W (w.alloc o) := h.below ((Below.refl _ _).alloc (Nat.le_refl _) _)
theorem Later.drew {W w : World} (h : Later W w) : Later W w.drew := h
theorem size_alloc' (w : World) (o : Obj) : (w.alloc o).heap.size = w.heap.size + 1 := by simp
theorem drew_cell (w : World) (a : Addr) : w.drew.cell? a = w.cell? a := rfl
theorem lt_of_some {w : World} {b : Nat} {o : Obj} (h : w.heap[b]? = some o) : b < w.heap.size := by
  rcases Nat.lt_or_ge b w.heap.size with hlt | hge
  · exact hlt
  · rw [Array.getElem?_eq_none hge] at h; cases h
theorem cell_keep {w w' : World} {a : Addr} {v : Value} (hb : Below w.heap.size w w') (h : w.cell? a = some v) : w'.cell? a = some v := (hb.cell (World.block_lt_of_cell? w a h)).trans h
theorem keep12 {w w2 : World} (hb : RowKit.Below w.heap.size w w2) {p0 p1 p2 p3 p4 p5 p6 p7 p8 p9 p10 p11 : Addr} {v0 v1 v2 v3 v4 v5 v6 v7 v8 v9 v10 v11 : Value} (h0 : w.cell? p0 = some v0) (h1 : w.cell? p1 = some v1) (h2 : w.cell? p2 = some v2) (h3 : w.cell? p3 = some v3) (h4 : w.cell? p4 = some v4) (h5 : w.cell? p5 = some v5) (h6 : w.cell? p6 = some v6) (h7 : w.cell? p7 = some v7) (h8 : w.cell? p8 = some v8) (h9 : w.cell? p9 = some v9) (h10 : w.cell? p10 = some v10) (h11 : w.cell? p11 = some v11) : w2.cell? p0 = some v0 ∧ w2.cell? p1 = some v1 ∧ w2.cell? p2 = some v2 ∧ w2.cell? p3 = some v3 ∧ w2.cell? p4 = some v4 ∧ w2.cell? p5 = some v5 ∧ w2.cell? p6 = some v6 ∧ w2.cell? p7 = some v7 ∧ w2.cell? p8 = some v8 ∧ w2.cell? p9 = some v9 ∧ w2.cell? p10 = some v10 ∧ w2.cell? p11 = some v11 := ⟨cell_keep hb h0, cell_keep hb h1, cell_keep hb h2, cell_keep hb h3, cell_keep hb h4, cell_keep hb h5, cell_keep hb h6, cell_keep hb h7, cell_keep hb h8, cell_keep hb h9, cell_keep hb h10, cell_keep hb h11⟩
theorem below_d {w w' : World} (h : Below w.drew.heap.size w.drew w') : Below w.heap.size w w' := ⟨h.os, h.tape, h.output, h.size, h.block⟩
theorem Later.range {W w : World} (hl : Later W w) {b off : Nat} {cs : List Value} (hb : b < W.heap.size) (h : W.rangeAt b off cs) : w.rangeAt b off cs := fun j u hu => by
  have := h j u hu
  simp only [World.cell?] at this ⊢
  rw [hl.2 b hb]
  exact this
theorem set_size (w : World) (a : Addr) (v : Value) : (w.setCell a v).heap.size = w.heap.size := by simp [World.setCell]
theorem set_other (w : World) (a : Addr) (v : Value) {c : Nat} (h : c ≠ a.block) : (w.setCell a v).heap[c]? = w.heap[c]? := by
  show (w.heap.modify a.block _)[c]? = _
  rw [Array.getElem?_modify, if_neg (fun e => h e.symm)]
theorem set_block {w : World} {b i : Nat} {cs : Array Value} {t : TypeId} {fr : Nat × Nat} (h : w.heap[b]? = some (.cells cs t fr)) (v : Value) : (w.setCell ⟨b, i, none⟩ v).heap[b]? = some (.cells (cs.setIfInBounds i v) t fr) := by
  show (w.heap.modify b _)[b]? = _
  rw [Array.getElem?_modify, if_pos rfl, h]
  rfl
theorem set_below {B : Nat} {w0 w : World} {b i : Nat} (h : Below B w0 w) (hB : B ≤ b) (v : Value) : Below B w0 (w.setCell ⟨b, i, none⟩ v) :=
  h.trans ⟨rfl, rfl, rfl, Nat.le_of_eq (set_size _ _ _).symm, fun k hk => set_other _ _ _ (Nat.ne_of_lt (Nat.lt_of_lt_of_le hk hB))⟩
theorem owns_keep {w w' : World} {B : Nat} {e : TypeId} {sz n : Nat} {v : Value} {xs : List Value} (h : w.ownsRow B e sz v n xs) (hk : ∀ b, b < w.heap.size → w'.heap[b]? = w.heap[b]?) : w'.ownsRow B e sz v n xs := by
  refine ⟨h.1, ?_⟩
  rcases h.2 with h0 | ⟨g, cap, cur, h1, h2, h3, h4⟩
  · exact .inl h0
  · exact .inr ⟨g, cap, cur, h1, h2, by rw [hk g (lt_of_some h3)]; exact h3, h4⟩
theorem owns_call {wc w1 : World} {B : Nat} {e : TypeId} {sz n : Nat} {v : Value} {xs : List Value} (h : wc.ownsRow B e sz v n xs) (hb : Below wc.heap.size wc w1) (o : Obj) : (w1.alloc o).ownsRow B e sz v n xs :=
  owns_keep h fun b hlt => by
    have := hb.size
    rw [heap_alloc_old, hb.block b hlt]
    omega
theorem far_block {wc w1 w3 : World} {o ob : Obj} {row : Option Nat} {b : Nat} (hb : Below wc.heap.size wc w1) (hg : (w1.alloc o).grownBy w3 row) (h : wc.heap[b]? = some ob) (hne : some b ≠ row) : w3.heap[b]? = some ob := by
  have hlt := lt_of_some h
  have := hb.size
  rw [hg.block b (by rw [size_alloc']; omega) hne, heap_alloc_old, hb.block b hlt]
  · exact h
  · omega
theorem round_measure {j n : Nat} (h : j < n) : n - (intOf (.int .i64 ((j : Int) + 1))).toNat < n - (intOf (.int .i64 (j : Int))).toNat := by
  simp only [intOf]
  omega
def whole : Bool → List (ByteArray × ByteArray × ByteArray)
  | true => [(dataSpace, ⟨#[116, 114, 117, 110, 99, 97, 116, 101, 45, 111, 110, 45, 111, 118, 101, 114, 102, 108, 111, 119]⟩, ⟨#[102, 97, 108, 115, 101]⟩)]
  | false => []
theorem own_cell {w : World} {B g sz n cap : Nat} {e : TypeId} {xs : List Value} (h : w.ownsRow B e sz (.slice (some ⟨g, 0, none⟩) n cap) n xs) {i : Nat} {u : Value} (hi : xs[i]? = some u) : w.cell? ⟨g, i, none⟩ = some u := by
  have := h.cells (g := g) rfl i u hi
  have hadd : (⟨g, 0, none⟩ : Addr).add i = ⟨g, i, none⟩ := by unfold Addr.add; split <;> simp_all
  rwa [hadd] at this
theorem setRow_far (w : World) {g b : Nat} (cs : Array Value) (h : b ≠ g) : (w.setRow g cs).heap[b]? = w.heap[b]? := setRow_other w g b cs h
open Go
section
variable {P : Program} {ops : Array Oper} {Q : Exit → Act → World → Prop} {md : Region.Mode} {S : World → Prop} {tail : Nat → Bool}
def wpAnyT (P : Program) (md : Region.Mode) (ops : Array Oper) (Q : Exit → Act → World → Prop) (S : World → Prop) (tail : Nat → Bool) : Nat → Array Bool → Act → World → Prop
  | 0, listed, a, w => Region.ready md ops listed = [] ∧ Q .normal a w
  | fuel + 1, listed, a, w =>
    (Region.ready md ops listed = [] → Q .normal a w) ∧
    ∀ i ∈ Region.ready md ops listed, wpOp P ops Q i (fun a' w' => (tail i = false → S w') ∧ wpAnyT P md ops Q S tail fuel (listed.setIfInBounds i true) a' w') a w
theorem wpAny_of_tail : ∀ (fuel : Nat) (listed : Array Bool) (a : Act) (w : World), wpAnyT P md ops Q S tail fuel listed a w → wpAny P md ops Q fuel listed a w
  | 0, _, _, _, h => h
  | fuel + 1, _, _, _, h => ⟨h.1, fun i hi => wpOp_mono (fun a' w' h' => wpAny_of_tail fuel _ a' w' h'.2) (h.2 i hi)⟩
theorem wpAnyT_first {i : Nat} {oi : Oper} {v : Value} (hi : ops[i]? = some oi) (hsel : ∀ (j : Nat) (o : Oper) cs b, ops[j]? = some o → o.op ≠ .select cs b)
    (hQ : ∀ c a w, Q (.panic c) (a.put oi.dst v) w → Q (.panic c) a w) (hi0 : tail i = false)
    (htail : ∀ (j : Nat) (oj : Oper), ops[j]? = some oj → tail j = true → ∃ e ∈ oj.after, Region.binds md e = true ∧ e.on = i) :
    ∀ (fuel : Nat) (listed : Array Bool) (a : Act) (w : World),
      (∀ j oj, ops[j]? = some oj → j ≠ i → listed.getD j true = false → (∀ e ∈ oj.after, Region.binds md e = true → e.on ≠ i) → oi.apart ops oj = true) →
      i ∈ Region.ready md ops listed → YieldsIf P ops S oi v a → S w →
      wpAnyT P md ops Q S tail fuel (listed.setIfInBounds i true) (a.put oi.dst v) w → wpAnyT P md ops Q S tail (fuel + 1) listed a w := by
  intro fuel
  induction fuel with
  | zero =>
    intro listed a w _ hr hy hS H
    refine ⟨fun h => (by rw [h] at hr; cases hr), fun j hj => ?_⟩
    by_cases hji : j = i
    · subst hji; exact hy.wpOp hi hS ⟨fun _ => hS, H⟩
    · have := ready_mono hj hji
      rw [H.1] at this
      cases this
  | succ fuel ih =>
    intro listed a w hfree hr hy hS H
    refine ⟨fun h => (by rw [h] at hr; cases hr), fun j hj => ?_⟩
    by_cases hji : j = i
    · subst hji; exact hy.wpOp hi hS ⟨fun _ => hS, H⟩
    · have h1 := H.2 j (ready_mono hj hji)
      obtain ⟨hjun, oj, hoj, hall⟩ := mem_ready.1 hj
      have hnot : ∀ e ∈ oj.after, Region.binds md e = true → e.on ≠ i := fun e he hb heq => by
        have h1 := hall e he hb
        have h0 := (mem_ready.1 hr).1
        rw [heq] at h1
        rcases Nat.lt_or_ge i listed.size with h' | h'
        · simp [h'] at h0 h1; rw [h0] at h1; cases h1
        · simp [Array.getElem?_eq_none h'] at h1
      have htj : tail j = false := by
        cases ht : tail j with
        | false => rfl
        | true =>
          obtain ⟨e, he, hb, heq⟩ := htail j oj hoj ht
          exact absurd heq (hnot e he hb)
      have h2 := wpOp_putIf hoj (hfree j oj hoj hji hjun hnot) (fun cs b => hsel i oi cs b hi) (fun cs b => hsel j oj cs b hoj) hQ hy h1
      have hfree' : ∀ k ok, ops[k]? = some ok → k ≠ i → (listed.setIfInBounds j true).getD k true = false →
          (∀ e ∈ ok.after, Region.binds md e = true → e.on ≠ i) → oi.apart ops ok = true := fun k ok hk hki hun hno => by
        refine hfree k ok hk hki ?_ hno
        by_cases hjk : j = k
        · subst hjk; exact hjun
        · rw [getD_set_ne true hjk] at hun; exact hun
      refine wpOp_mono (fun a' w' h3 => ⟨fun _ => h3.2.1 htj, ih (listed.setIfInBounds j true) a' w' hfree' (ready_mono hr (Ne.symm hji)) h3.1 (h3.2.1 htj) ?_⟩) h2
      rw [Array.setIfInBounds_comm _ _ hji]
      exact h3.2.2
def tailWaits (md : Region.Mode) (ops : Array Oper) (tail : Nat → Bool) (i : Nat) : Bool :=
  (!tail i) && (List.range ops.size).all fun j => !tail j || (match ops[j]? with
    | some o => o.after.any fun e => Region.binds md e && Nat.beq e.on i
    | none => true)
theorem tailWaits_ok {i : Nat} (h : tailWaits md ops tail i = true) : tail i = false ∧ ∀ (j : Nat) (oj : Oper), ops[j]? = some oj → tail j = true → ∃ e ∈ oj.after, Region.binds md e = true ∧ e.on = i := by
  unfold tailWaits at h
  simp only [Bool.and_eq_true, Bool.not_eq_true'] at h
  refine ⟨h.1, fun j oj hj ht => ?_⟩
  have hlt : j < ops.size := by
    rcases Nat.lt_or_ge j ops.size with hl | hl
    · exact hl
    · rw [Array.getElem?_eq_none hl] at hj; cases hj
  have h2 := List.all_eq_true.1 h.2 j (List.mem_range.2 hlt)
  rw [ht, hj] at h2
  simp only [Bool.not_true, Bool.false_or] at h2
  obtain ⟨e, he, hb⟩ := Array.any_eq_true'.1 h2
  simp only [Bool.and_eq_true] at hb
  exact ⟨e, he, hb.1, Nat.eq_of_beq_eq_true hb.2⟩
theorem wpAnyT_take {i : Nat} {oi : Oper} {v : Value} {fuel : Nat} {listed : Array Bool} {a : Act} {w : World} (hi : ops[i]? = some oi)
    (hs : Region.noSelect ops = true) (hf : Region.free md ops listed i = true) (hr : (Region.ready md ops listed).contains i = true) (ht : tailWaits md ops tail i = true)
    (hQ : ∀ c a w, Q (.panic c) (a.put oi.dst v) w → Q (.panic c) a w) (hy : YieldsIf P ops S oi v a) (hS : S w)
    (h : wpAnyT P md ops Q S tail fuel (listed.setIfInBounds i true) (a.put oi.dst v) w) : wpAnyT P md ops Q S tail (fuel + 1) listed a w :=
  wpAnyT_first hi (Region.noSelect_spec hs) hQ (tailWaits_ok ht).1 (tailWaits_ok ht).2 fuel listed a w (Region.free_spec hi hf) (by simpa using hr) hy hS h
theorem tk (i : Nat) (v : Value) {oi : Oper} {fuel : Nat} {listed : Array Bool} {a : Act} {w : World} (hi : ops[i]? = some oi) (hy : YieldsIf P ops S oi v a) (hS : S w) (h : wpAnyT P md ops Q S tail fuel (listed.setIfInBounds i true) (a.put oi.dst v) w) (hs : Region.noSelect ops = true := by kernel_rfl) (hf : Region.free md ops listed i = true := by kernel_rfl) (hr : (Region.ready md ops listed).contains i = true := by kernel_rfl) (ht : tailWaits md ops tail i = true := by kernel_rfl) (hQ : ∀ c a w, Q (.panic c) (a.put oi.dst v) w → Q (.panic c) a w := by exact fun _ _ _ h => h) : wpAnyT P md ops Q S tail (fuel + 1) listed a w := wpAnyT_take hi hs hf hr ht hQ hy hS h
theorem s0 {α : Type} {a b : α} {l : List α} : (a :: l).set 0 b = b :: l := rfl
theorem s1 {α : Type} {a b : α} {n : Nat} {l : List α} : (a :: l).set (n + 1) b = a :: l.set n b := rfl
theorem sA {α : Type} (l : List α) (i : Nat) (a : α) : l.toArray.setIfInBounds i a = (l.set i a).toArray := by simp
theorem wpAnyT_step {i : Nat} {o : Oper} {fuel : Nat} {listed : Array Bool} {a : Act} {w : World} (hr : Region.ready md ops listed = [i]) (ho : ops[i]? = some o)
    (h : ∀ K' : Act → World → Prop, Shut (∀ a w, S w → (S w → wpAnyT P md ops Q S tail fuel (listed.setIfInBounds i true) a w) → K' a w) → if Region.wanted o (yielded ops a.tmps) = true then Oper.wp P o a w K' Q else K' (a.put o.dst undef) w) :
    wpAnyT P md ops Q S tail (fuel + 1) listed a w :=
  ⟨fun h0 => (by rw [hr] at h0; cases h0), fun j hj => by
    rw [hr] at hj
    obtain rfl := List.mem_singleton.1 hj
    exact wpOp_step ho (fun K' hK => h K' (fun a w hS hW => hK a w ⟨fun _ => hS, hW hS⟩))⟩
theorem wpAnyT_done {listed : Array Bool} {a : Act} {w : World} (hr : Region.ready md ops listed = []) (h : Q .normal a w) :
    ∀ fuel, wpAnyT P md ops Q S tail fuel listed a w
  | 0 => ⟨hr, h⟩
  | _ + 1 => ⟨fun _ => h, by rw [hr]; simp⟩
theorem wp_region_tail {id : Nat} {a : Act} {w : World} (hm : P.follows .mixedOrders = true) (hS : S w.drew)
    (h : S w.drew → wpAnyT P .any ops Q S tail ops.size (Array.replicate ops.size false) a w.drew) : (Code.region id ops true).wp P Q a w :=
  wp_region_any hm (wpAny_of_tail _ _ _ _ (h hS))
end
open Go Go.RowKit
set_option maxRecDepth 100000
theorem below_grow {w w1 w' : World} {row : Option Nat} (hb : Below w.heap.size w w1) (hg : w1.grownBy w' row) (hr : ∀ b, row = some b → w.heap.size ≤ b) : Below w.heap.size w w' :=
  hb.trans ⟨hg.os, hg.tape, hg.output, hg.size, fun k hk => hg.block k (Nat.lt_of_lt_of_le hk hb.size) (fun e => by have := hr k e.symm; omega)⟩
end Go.Proofs.YtkeibmkcgnppeaaGreatDoor

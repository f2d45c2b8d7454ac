/- The two tests of a format, piece by piece. -/
import Derived.Test.YtkeibmkcgnppeaaGreatDoorProg
import Derived.Ground.NamesProg
import Derived.Shelf.Unicode.ValidAny
import Derived.Lib.LaidU8T
import Derived.Test.YtkeibmkcgnppeaaGreatDoorZCa
import Derived.Test.YtkeibmkcgnppeaaGreatDoorZEnv
import Derived.Test.YtkeibmkcgnppeaaGreatDoorZRd
namespace Go.Proofs
open Go.RowKit Go.Shelf Go.Lib
def Tryz.laysValid_ren : Go.Shelf.Ren := ⟨fun | 196 => 84 | 259 => 134 | n => n, fun | 9 => 9 | 4 => 4 | 3 => 3 | 5 => 5 | 12 => 12 | 119 => 188 | 0 => 0 | 46 => 192 | 139 => 191 | 138 => 190 | 53 => 155 | n => n, fun | 3 => 1 | 4 => 2 | n => n⟩
theorem Tryz.laysValid : Go.Proofs.Lays.n196 Tryz.prog Tryz.laysValid_ren := {
  mixed := by kernel_rfl
  f196 := Tryz.func84.trans (congrArg some (by kernel_rfl))
  f259 := Tryz.func134.trans (congrArg some (by kernel_rfl))
  t0 := Tryz.underlying0
  a0 := Tryz.isAgg0
  z0 := Tryz.sizeOf0
  v0 := Tryz.zeroValue0
  t3 := Tryz.underlying3
  a3 := Tryz.isAgg3
  z3 := Tryz.sizeOf3
  v3 := Tryz.zeroValue3
  t4 := Tryz.underlying4
  a4 := Tryz.isAgg4
  z4 := Tryz.sizeOf4
  v4 := Tryz.zeroValue4
  t5 := Tryz.underlying5
  a5 := Tryz.isAgg5
  z5 := Tryz.sizeOf5
  v5 := Tryz.zeroValue5
  t9 := Tryz.underlying9
  a9 := Tryz.isAgg9
  z9 := Tryz.sizeOf9
  v9 := Tryz.zeroValue9
  t12 := Tryz.underlying12
  a12 := Tryz.isAgg12
  z12 := Tryz.sizeOf12
  v12 := Tryz.zeroValue12
  t46 := Tryz.underlying192
  a46 := Tryz.isAgg192
  z46 := Tryz.sizeOf192
  v46 := Tryz.zeroValue192
  t53 := Tryz.underlying155
  a53 := Tryz.isAgg155
  z53 := Tryz.sizeOf155
  v53 := Tryz.zeroValue155
  t119 := Tryz.underlying188
  a119 := Tryz.isAgg188
  z119 := Tryz.sizeOf188
  t138 := Tryz.underlying190
  a138 := Tryz.isAgg190
  z138 := Tryz.sizeOf190
  v138 := Tryz.zeroValue190
  t139 := Tryz.underlying191
  a139 := Tryz.isAgg191
  z139 := Tryz.sizeOf191
  v139 := Tryz.zeroValue191
  g3 := by kernel_rfl
  g4 := by kernel_rfl }
namespace YtkeibmkcgnppeaaGreatDoor.Ck
def Tabs (w : World) : Prop := Lib.Utf8Tabs (Tryz.laysValid_ren.g 3) (Tryz.laysValid_ren.g 4) w
theorem valid_call (s : ByteArray) (w : World) (hs : s.size ≤ 9223372036854775807) (hT : Tabs w) :
    Calls Tryz.prog 84 #[.string s] w fun e w' => e = .returned (.bool (Lib.validD s.data.toList)) ∧ Below w.heap.size w w' :=
  Any.utf8_ValidString Tryz.laysValid s w hs hT
theorem tabs_of {w : World} (h3 : VarReads Tryz.prog w "unicode/utf8.first" firstData) (h4 : VarReads Tryz.prog w "unicode/utf8.acceptRanges" acceptData) : Tabs w :=
  utf8Tabs_of_readsT (U8Types.of196 Tryz.laysValid) ⟨by kernel_rfl, by kernel_rfl, by kernel_rfl, by kernel_rfl, by kernel_rfl, by kernel_rfl, by kernel_rfl⟩ h3 h4
theorem Tabs.of_heap {w w' : World} (h : Tabs w) (hk : ∀ k, k < w.heap.size → w'.heap[k]? = w.heap[k]?) : Tabs w' := by
  have one : ∀ {a : Addr} {v : Value}, w.cell? a = some v → w'.cell? a = some v := by
    intro a v hc
    rcases Nat.lt_or_ge a.block w.heap.size with h' | h'
    · simp only [World.cell?] at hc ⊢
      rw [hk _ h']
      exact hc
    · simp [World.cell?, Array.getElem?_eq_none h'] at hc
  exact ⟨fun c hc => one (h.1 c hc), fun i hi => ⟨one (h.2 i hi).1, one (h.2 i hi).2⟩⟩
end YtkeibmkcgnppeaaGreatDoor.Ck
end Go.Proofs
namespace Go.Proofs.YtkeibmkcgnppeaaGreatDoor.Ck
open Go Go.Proofs.YtkeibmkcgnppeaaGreatDoor.Rx
set_option maxRecDepth 100000
def oldOf (W : World) : Nat → Option (Option Obj) := fun k => match Nat.blt k W.heap.size with
  | true => some W.heap[k]?
  | false => none
def Later (W w : World) : Prop := W.heap.size ≤ w.heap.size ∧ ∀ k, k < W.heap.size → w.heap[k]? = W.heap[k]?
def Consts (W : World) : Prop := ∀ g off v, env.gcell g off = some v → g < W.heap.size ∧ W.cell? ⟨g, off, none⟩ = some v
theorem Later.still {W w : World} (hg : Consts W) (h : Later W w) {con : FuncId → List AV → Option AV} {opc opn : Op → (Operand → AV) → Option AV} {sy : Rx.Place} {tys : T Ty} {facts : List (Exp × Bool)} :
    (env.plus con opc opn sy (oldOf W) tys facts).Still W.heap.size w := by
  refine ⟨fun g off v hv => ?_, fun k o ho => ?_⟩
  · obtain ⟨h1, h2⟩ := hg g off v hv
    refine ⟨h1, ?_⟩
    simp only [World.cell?] at h2 ⊢
    rw [h.2 g h1]
    exact h2
  · change oldOf W k = some o at ho
    unfold oldOf at ho
    split at ho
    · rename_i hk
      simp only [Option.some.injEq] at ho
      have hk : k < W.heap.size := by simpa [Nat.blt_eq] using hk
      exact ⟨hk, by rw [h.2 k hk, ho]⟩
    · cases ho
theorem still_later {W w : World} {base : Nat} {con : FuncId → List AV → Option AV} {opc opn : Op → (Operand → AV) → Option AV} {sy : Rx.Place} {tys : T Ty} {facts : List (Exp × Bool)}
    (h : (env.plus con opc opn sy (oldOf W) tys facts).Still base w) : ∀ k, k < W.heap.size → w.heap[k]? = W.heap[k]? := fun k hk => by
  have hb : Nat.blt k W.heap.size = true := by simpa [Nat.blt_eq] using hk
  exact (h.2 k W.heap[k]? (by show oldOf W k = _; simp [oldOf, hb])).2
def pvals (k mn pl ex : Int) (s : ByteArray) (g l : Bool) : List Value :=
  [.int .i64 0, .int .i64 k, .string s, .int .i64 mn, .int .i64 pl, .int .i64 ex, .bool g, .bool l, .bool (Lib.validD s.data.toList)]
def prow (k mn pl ex : Int) (s : ByteArray) (g l : Bool) : Value := .agg #[.int .i64 k, .string s, .int .i64 mn, .int .i64 pl, .int .i64 ex, .bool g, .bool l]
theorem ptys_ok {b : Nat} {k mn pl ex : Int} {s : ByteArray} {g l : Bool} : ∀ i t, ptys.get i = some t → ∃ lc, symTab b (pvals k mn pl ex s g l) i = some lc ∧ hasTy lc.val t = true := by
  intro i t h
  unfold ptys at h
  rw [T.get_ofList] at h
  match i, h with
  | 0, h | 1, h | 2, h | 3, h | 4, h | 5, h | 6, h | 7, h | 8, h =>
    simp at h
    subst h
    exact ⟨_, rfl, rfl⟩
  | i + 9, h => simp at h
def Both (W : World) (f g : FuncId) (args : Array Value) (r : Bool) : Prop :=
  ∀ w, Later W w → Calls Tryz.prog f args w (fun e w' => e = .returned (.bool r) ∧ RowKit.Below w.heap.size w w') ∧ Calls Tryz.prog g args w (fun e w' => e = .returned (.bool r) ∧ RowKit.Below w.heap.size w w')
theorem piece_fin {W : World} (hg : Consts W) (hT : Tabs W) {k mn pl ex : Int} {s : ByteArray} {g l : Bool} (hs : s.size ≤ 9223372036854775807) {row : AV} {d : DT} {fs : List (Exp × Bool)}
    (hrow : VR (symTab W.heap.size (pvals k mn pl ex s g l)) row (prow k mn pl ex s g l)) (hd : ∀ sy old, d.ok (penv sy old) (chkP row) fs = true)
    (hf : ∀ f ∈ fs, f.1.ev (symTab W.heap.size (pvals k mn pl ex s g l)) = some (.bool f.2)) : ∃ r, Both W 41 50 #[prow k mn pl ex s g l] r := by
  obtain ⟨fs', hfs, hchk⟩ := DT.ok_at (E := penv (symTab W.heap.size (pvals k mn pl ex s g l)) (oldOf W)) ptys_ok (hd _ _) hf
  obtain ⟨r, h1, h2⟩ := okB_ok hchk
  have OK : (env.plus (pcon fs') (fun _ _ => none) (fun _ _ => none) (symTab W.heap.size (pvals k mn pl ex s g l)) (oldOf W) ptys fs').OK := by
    refine env_ok.plus ?_ (fun _ _ _ h => by cases h) (fun _ _ _ h => by cases h) ptys_ok hfs
    intro f args v hv base ρ w vals hst hle hbase ha
    unfold pcon at hv
    split at hv
    · rename_i he
      have he := Nat.eq_of_beq_eq_true he
      subst he
      split at hv
      · split at hv
        · rename_i b hb
          simp only [Option.some.injEq] at hv
          subst hv
          simp only [VRs, VR] at ha
          obtain ⟨x, xs, rfl, ⟨hx, _⟩, rfl⟩ := ha
          have hx2 := Exp.ev_mono hle (show (Exp.sym 2).ev (symTab W.heap.size (pvals k mn pl ex s g l)) = some (.string s) from rfl)
          rw [hx, Option.some.injEq] at hx2
          subst hx2
          have hb2 : aValid.ev (symTab W.heap.size (pvals k mn pl ex s g l)) = some (.bool b) := look_ok hfs hb
          have hb3 : aValid.ev (symTab W.heap.size (pvals k mn pl ex s g l)) = some (.bool (Lib.validD s.data.toList)) := rfl
          rw [hb3] at hb2
          simp only [Option.some.injEq, Value.bool.injEq] at hb2
          refine Calls.mono (valid_call s w hs (hT.of_heap (still_later hst))) fun e w' he => ?_
          obtain ⟨rfl, hbel⟩ := he
          exact ⟨_, rfl, by simp only [VR]; rw [hb2], hbel⟩
        · cases hv
      · cases hv
    · cases hv
  refine ⟨r, fun w hw => ⟨?_, ?_⟩⟩
  · exact sym_call OK h1 w rfl hw.1 (show 9 ≤ 16 by decide) (hw.still hg) (vals := [prow k mn pl ex s g l]) (by simp only [VRs]; exact ⟨_, _, rfl, hrow, rfl⟩)
  · exact sym_call OK h2 w rfl hw.1 (show 9 ≤ 16 by decide) (hw.still hg) (vals := [prow k mn pl ex s g l]) (by simp only [VRs]; exact ⟨_, _, rfl, hrow, rfl⟩)
theorem rowE_ok {b : Nat} {k mn pl ex : Int} {g l : Bool} : VR (symTab b (pvals k mn pl ex ⟨#[]⟩ g l)) rowE (prow k mn pl ex ⟨#[]⟩ g l) := by
  simp only [rowE, VR, prow]
  refine ⟨_, rfl, ?_⟩
  simp only [VRs, VR]
  exact ⟨_, _, rfl, ⟨rfl, rfl⟩, _, _, rfl, rfl, _, _, rfl, ⟨rfl, rfl⟩, _, _, rfl, ⟨rfl, rfl⟩, _, _, rfl, ⟨rfl, rfl⟩, _, _, rfl, ⟨rfl, rfl⟩, _, _, rfl, ⟨rfl, rfl⟩, rfl⟩
theorem rowT_ok {b : Nat} {k mn pl ex : Int} {s : ByteArray} {g l : Bool} : VR (symTab b (pvals k mn pl ex s g l)) rowT (prow k mn pl ex s g l) := by
  simp only [rowT, VR, prow]
  refine ⟨_, rfl, ?_⟩
  simp only [VRs, VR]
  exact ⟨_, _, rfl, ⟨rfl, rfl⟩, _, _, rfl, ⟨rfl, rfl⟩, _, _, rfl, ⟨rfl, rfl⟩, _, _, rfl, ⟨rfl, rfl⟩, _, _, rfl, ⟨rfl, rfl⟩, _, _, rfl, ⟨rfl, rfl⟩, _, _, rfl, ⟨rfl, rfl⟩, rfl⟩
theorem kinds15 (k : Int) : k = 0 ∨ k = 1 ∨ k = 2 ∨ k = 3 ∨ k = 4 ∨ k = 5 ∨ k = 6 ∨ k = 7 ∨ k = 8 ∨ k = 9 ∨ k = 10 ∨ k = 11 ∨ k = 12 ∨ k = 13 ∨ k = 14 ∨ k < 0 ∨ 14 < k := by omega
theorem kind_fact {b : Nat} {k mn pl ex : Int} {s : ByteArray} {g l : Bool} : (aKind k).ev (symTab b (pvals k mn pl ex s g l)) = some (.bool true) := by
  have h1 : (Exp.sym 1).ev (symTab b (pvals k mn pl ex s g l)) = some (.int .i64 k) := rfl
  simp only [aKind, Exp.ev] at h1 ⊢
  rw [h1]
  exact cmpInt_ev (by simp [cmpInt])
theorem neg_fact {b : Nat} {k mn pl ex : Int} {s : ByteArray} {g l : Bool} (hk : k < 0) : aNeg.ev (symTab b (pvals k mn pl ex s g l)) = some (.bool true) := by
  have h1 : (Exp.sym 1).ev (symTab b (pvals k mn pl ex s g l)) = some (.int .i64 k) := rfl
  simp only [aNeg, Exp.ev] at h1 ⊢
  rw [h1]
  exact cmpInt_ev (by simp [cmpInt, hk])
theorem big_fact {b : Nat} {k mn pl ex : Int} {s : ByteArray} {g l : Bool} (hk : 14 < k) : aBig.ev (symTab b (pvals k mn pl ex s g l)) = some (.bool true) := by
  have h1 : (Exp.sym 1).ev (symTab b (pvals k mn pl ex s g l)) = some (.int .i64 k) := rfl
  simp only [aBig, Exp.ev] at h1 ⊢
  rw [h1]
  exact cmpInt_ev (by simp [cmpInt, hk])
theorem text_fact {b : Nat} {k mn pl ex : Int} {s : ByteArray} {g l : Bool} (hs : s ≠ ⟨#[]⟩) : aText.ev (symTab b (pvals k mn pl ex s g l)) = some (.bool false) := by
  have h1 : (Exp.sym 2).ev (symTab b (pvals k mn pl ex s g l)) = some (.string s) := rfl
  simp only [aText, Exp.ev] at h1 ⊢
  rw [h1]
  have h2 : (s.toList == (⟨#[]⟩ : ByteArray).toList) = false := by
    rw [beq_eq_false_iff_ne]
    intro h
    rw [ByteArray.toList_eq, ByteArray.toList_eq] at h
    exact hs (ByteArray.ext (Array.ext' h))
  show pure0 (Op.stringOp .eql s ⟨#[]⟩) = _
  simp only [Op.stringOp, pure, pure0, h2]
theorem one_fact {σ : Rx.Place} {e : Exp} {b : Bool} (h : e.ev σ = some (.bool b)) : ∀ f ∈ [(e, b)], f.1.ev σ = some (.bool f.2) := by
  intro f hf
  rw [List.mem_singleton] at hf
  subst hf
  exact h
theorem two_facts {σ : Rx.Place} {e e' : Exp} {b b' : Bool} (h : e.ev σ = some (.bool b)) (h' : e'.ev σ = some (.bool b')) : ∀ f ∈ [(e, b), (e', b')], f.1.ev σ = some (.bool f.2) := by
  intro f hf
  rcases List.mem_cons.1 hf with rfl | hf
  · exact h
  · exact one_fact h' f hf
theorem piece_calls {W : World} (hg : Consts W) (hT : Tabs W) (k mn pl ex : Int) (s : ByteArray) (g l : Bool) (hs : s.size ≤ 9223372036854775807) : ∃ r, Both W 41 50 #[prow k mn pl ex s g l] r := by
  by_cases he : s = ⟨#[]⟩
  · subst he
    rcases kinds15 k with rfl | rfl | rfl | rfl | rfl | rfl | rfl | rfl | rfl | rfl | rfl | rfl | rfl | rfl | rfl | h | h
    · exact piece_fin hg hT hs rowE_ok pe0 (one_fact kind_fact)
    · exact piece_fin hg hT hs rowE_ok pe1 (one_fact kind_fact)
    · exact piece_fin hg hT hs rowE_ok pe2 (one_fact kind_fact)
    · exact piece_fin hg hT hs rowE_ok pe3 (one_fact kind_fact)
    · exact piece_fin hg hT hs rowE_ok pe4 (one_fact kind_fact)
    · exact piece_fin hg hT hs rowE_ok pe5 (one_fact kind_fact)
    · exact piece_fin hg hT hs rowE_ok pe6 (one_fact kind_fact)
    · exact piece_fin hg hT hs rowE_ok pe7 (one_fact kind_fact)
    · exact piece_fin hg hT hs rowE_ok pe8 (one_fact kind_fact)
    · exact piece_fin hg hT hs rowE_ok pe9 (one_fact kind_fact)
    · exact piece_fin hg hT hs rowE_ok pe10 (one_fact kind_fact)
    · exact piece_fin hg hT hs rowE_ok pe11 (one_fact kind_fact)
    · exact piece_fin hg hT hs rowE_ok pe12 (one_fact kind_fact)
    · exact piece_fin hg hT hs rowE_ok pe13 (one_fact kind_fact)
    · exact piece_fin hg hT hs rowE_ok pe14 (one_fact kind_fact)
    · exact piece_fin hg hT hs rowE_ok peNeg (one_fact (neg_fact h))
    · exact piece_fin hg hT hs rowE_ok peBig (one_fact (big_fact h))
  · rcases kinds15 k with rfl | rfl | rfl | rfl | rfl | rfl | rfl | rfl | rfl | rfl | rfl | rfl | rfl | rfl | rfl | h | h
    · exact piece_fin hg hT hs rowT_ok pt0 (two_facts kind_fact (text_fact he))
    · exact piece_fin hg hT hs rowT_ok pt1 (two_facts kind_fact (text_fact he))
    · exact piece_fin hg hT hs rowT_ok pt2 (two_facts kind_fact (text_fact he))
    · exact piece_fin hg hT hs rowT_ok pt3 (two_facts kind_fact (text_fact he))
    · exact piece_fin hg hT hs rowT_ok pt4 (two_facts kind_fact (text_fact he))
    · exact piece_fin hg hT hs rowT_ok pt5 (two_facts kind_fact (text_fact he))
    · exact piece_fin hg hT hs rowT_ok pt6 (two_facts kind_fact (text_fact he))
    · exact piece_fin hg hT hs rowT_ok pt7 (two_facts kind_fact (text_fact he))
    · exact piece_fin hg hT hs rowT_ok pt8 (two_facts kind_fact (text_fact he))
    · exact piece_fin hg hT hs rowT_ok pt9 (two_facts kind_fact (text_fact he))
    · exact piece_fin hg hT hs rowT_ok pt10 (two_facts kind_fact (text_fact he))
    · exact piece_fin hg hT hs rowT_ok pt11 (two_facts kind_fact (text_fact he))
    · exact piece_fin hg hT hs rowT_ok pt12 (two_facts kind_fact (text_fact he))
    · exact piece_fin hg hT hs rowT_ok pt13 (two_facts kind_fact (text_fact he))
    · exact piece_fin hg hT hs rowT_ok pt14 (two_facts kind_fact (text_fact he))
    · exact piece_fin hg hT hs rowT_ok ptNeg (two_facts (neg_fact h) (text_fact he))
    · exact piece_fin hg hT hs rowT_ok ptBig (two_facts (big_fact h) (text_fact he))
end Go.Proofs.YtkeibmkcgnppeaaGreatDoor.Ck
namespace Go.Proofs.YtkeibmkcgnppeaaGreatDoor.Ck
open Go Go.Proofs.YtkeibmkcgnppeaaGreatDoor.Rx
set_option maxRecDepth 100000
def gvals (k p : Int) : List Value := [.int .i64 k, .int .i64 p]
def gtys : T Ty := T.ofList [.int .i64, .int .i64]
noncomputable def genv (sy : Rx.Place) (old : Nat → Option (Option Obj)) : Env := env.plus (fun _ _ => none) (fun _ _ => none) (fun _ _ => none) sy old gtys []
def fKind (k : Int) : Exp := .bin .eql (.sym 0) (.lit (.int .i64 k))
def chkG (E : Env) : Bool :=
  okB (ans (eval E 200 (.call (.fn 40) [.ex (.sym 0), .ex (.sym 1)] ⟨16, .leaf⟩))) (ans (eval E 200 (.call (.fn 49) [.ex (.sym 0), .ex (.sym 1)] ⟨16, .leaf⟩)))
def pieces : List (Exp × Bool) := [(aKind 0, true), (aKind 1, true), (aKind 2, true), (aKind 3, true), (aKind 4, true), (aKind 5, true), (aKind 6, true), (aKind 7, true), (aKind 8, true), (aKind 9, true),
  (aKind 10, true), (aKind 11, true), (aKind 12, true), (aKind 13, true), (aKind 14, true), (aNeg, true), (aBig, true)]
def allG (E : Env) (k : Int) : List (Exp × Bool) → Bool
  | [] => true
  | f :: r => match chkG (E.with [f, (fKind k, true)]) with
    | true => allG E k r
    | false => false
theorem allG_ok {E : Env} {k : Int} : ∀ {l : List (Exp × Bool)}, allG E k l = true → ∀ f ∈ l, chkG (E.with [f, (fKind k, true)]) = true
  | [], _, f, hf => by cases hf
  | g :: r, h, f, hf => by
    simp only [allG] at h
    split at h
    · rename_i h1
      rcases List.mem_cons.1 hf with rfl | hf
      · exact h1
      · exact allG_ok h f hf
    · cases h
theorem may0 (sy : Rx.Place) (old : Nat → Option (Option Obj)) : allG (genv sy old) 0 pieces = true := by as_aux_lemma => kernel_rfl
theorem may1 (sy : Rx.Place) (old : Nat → Option (Option Obj)) : allG (genv sy old) 1 pieces = true := by as_aux_lemma => kernel_rfl
theorem may2 (sy : Rx.Place) (old : Nat → Option (Option Obj)) : allG (genv sy old) 2 pieces = true := by as_aux_lemma => kernel_rfl
theorem may3 (sy : Rx.Place) (old : Nat → Option (Option Obj)) : allG (genv sy old) 3 pieces = true := by as_aux_lemma => kernel_rfl
theorem may4 (sy : Rx.Place) (old : Nat → Option (Option Obj)) : allG (genv sy old) 4 pieces = true := by as_aux_lemma => kernel_rfl
theorem may5 (sy : Rx.Place) (old : Nat → Option (Option Obj)) : allG (genv sy old) 5 pieces = true := by as_aux_lemma => kernel_rfl
theorem may6 (sy : Rx.Place) (old : Nat → Option (Option Obj)) : allG (genv sy old) 6 pieces = true := by as_aux_lemma => kernel_rfl
theorem may7 (sy : Rx.Place) (old : Nat → Option (Option Obj)) : allG (genv sy old) 7 pieces = true := by as_aux_lemma => kernel_rfl
theorem gtys_ok {b : Nat} {k p : Int} : ∀ i t, gtys.get i = some t → ∃ lc, symTab b (gvals k p) i = some lc ∧ hasTy lc.val t = true := by
  intro i t h
  unfold gtys at h
  rw [T.get_ofList] at h
  match i, h with
  | 0, h | 1, h =>
    simp at h
    subst h
    exact ⟨_, rfl, rfl⟩
  | i + 2, h => simp at h
theorem may_fin {W : World} (hg : Consts W) {k p : Int} {f : Exp × Bool} (hm : f ∈ pieces) (hf : f.1.ev (symTab W.heap.size (gvals k p)) = some (.bool f.2)) (ha : ∀ sy old, allG (genv sy old) k pieces = true) :
    ∃ r, Both W 40 49 #[.int .i64 k, .int .i64 p] r := by
  have hk : (fKind k).ev (symTab W.heap.size (gvals k p)) = some (.bool true) := by
    have h1 : (Exp.sym 0).ev (symTab W.heap.size (gvals k p)) = some (.int .i64 k) := rfl
    simp only [fKind, Exp.ev] at h1 ⊢
    rw [h1]
    exact cmpInt_ev (by simp [cmpInt])
  obtain ⟨r, h1, h2⟩ := okB_ok (allG_ok (ha (symTab W.heap.size (gvals k p)) (oldOf W)) f hm)
  have OK : (env.plus (fun _ _ => none) (fun _ _ => none) (fun _ _ => none) (symTab W.heap.size (gvals k p)) (oldOf W) gtys [f, (fKind k, true)]).OK :=
    env_ok.plus (fun _ _ _ h => by cases h) (fun _ _ _ h => by cases h) (fun _ _ _ h => by cases h) gtys_ok (two_facts hf hk)
  have hv : VRs (symTab W.heap.size (gvals k p)) [.ex (.sym 0), .ex (.sym 1)] [.int .i64 k, .int .i64 p] := by
    simp only [VRs, VR]
    exact ⟨_, _, rfl, ⟨rfl, rfl⟩, _, _, rfl, ⟨rfl, rfl⟩, rfl⟩
  refine ⟨r, fun w hw => ⟨?_, ?_⟩⟩
  · exact sym_call OK h1 w rfl hw.1 (show 2 ≤ 16 by decide) (hw.still hg) hv
  · exact sym_call OK h2 w rfl hw.1 (show 2 ≤ 16 by decide) (hw.still hg) hv
theorem piece_kind {b : Nat} (k p : Int) : ∃ f ∈ pieces, f.1.ev (symTab b (gvals k p)) = some (.bool f.2) := by
  have h1 : (Exp.sym 1).ev (symTab b (gvals k p)) = some (.int .i64 p) := rfl
  have eq : ∀ i : Int, p = i → (aKind i).ev (symTab b (gvals k p)) = some (.bool true) := fun i hi => by
    simp only [aKind, Exp.ev] at h1 ⊢
    rw [h1]
    exact cmpInt_ev (by simp [cmpInt, hi])
  rcases kinds15 p with h | h | h | h | h | h | h | h | h | h | h | h | h | h | h | h | h
  · exact ⟨(aKind 0, true), by simp [pieces], eq 0 h⟩
  · exact ⟨(aKind 1, true), by simp [pieces], eq 1 h⟩
  · exact ⟨(aKind 2, true), by simp [pieces], eq 2 h⟩
  · exact ⟨(aKind 3, true), by simp [pieces], eq 3 h⟩
  · exact ⟨(aKind 4, true), by simp [pieces], eq 4 h⟩
  · exact ⟨(aKind 5, true), by simp [pieces], eq 5 h⟩
  · exact ⟨(aKind 6, true), by simp [pieces], eq 6 h⟩
  · exact ⟨(aKind 7, true), by simp [pieces], eq 7 h⟩
  · exact ⟨(aKind 8, true), by simp [pieces], eq 8 h⟩
  · exact ⟨(aKind 9, true), by simp [pieces], eq 9 h⟩
  · exact ⟨(aKind 10, true), by simp [pieces], eq 10 h⟩
  · exact ⟨(aKind 11, true), by simp [pieces], eq 11 h⟩
  · exact ⟨(aKind 12, true), by simp [pieces], eq 12 h⟩
  · exact ⟨(aKind 13, true), by simp [pieces], eq 13 h⟩
  · exact ⟨(aKind 14, true), by simp [pieces], eq 14 h⟩
  · refine ⟨(aNeg, true), by simp [pieces], ?_⟩
    simp only [aNeg, Exp.ev] at h1 ⊢
    rw [h1]
    exact cmpInt_ev (by simp [cmpInt, h])
  · refine ⟨(aBig, true), by simp [pieces], ?_⟩
    simp only [aBig, Exp.ev] at h1 ⊢
    rw [h1]
    exact cmpInt_ev (by simp [cmpInt, h])
theorem may_calls {W : World} (hg : Consts W) (k p : Int) (h0 : 0 ≤ k) (h7 : k ≤ 7) : ∃ r, Both W 40 49 #[.int .i64 k, .int .i64 p] r := by
  obtain ⟨f, hm, hf⟩ := piece_kind (b := W.heap.size) k p
  have hk : k = 0 ∨ k = 1 ∨ k = 2 ∨ k = 3 ∨ k = 4 ∨ k = 5 ∨ k = 6 ∨ k = 7 := by omega
  rcases hk with rfl | rfl | rfl | rfl | rfl | rfl | rfl | rfl
  · exact may_fin hg hm hf may0
  · exact may_fin hg hm hf may1
  · exact may_fin hg hm hf may2
  · exact may_fin hg hm hf may3
  · exact may_fin hg hm hf may4
  · exact may_fin hg hm hf may5
  · exact may_fin hg hm hf may6
  · exact may_fin hg hm hf may7
end Go.Proofs.YtkeibmkcgnppeaaGreatDoor.Ck
namespace Go.Proofs.YtkeibmkcgnppeaaGreatDoor.Ck
open Go Go.Proofs.YtkeibmkcgnppeaaGreatDoor.Rx
set_option maxRecDepth 100000
def stys : T Ty := ((((((((((((((((T.leaf.set 0 (.int .i64)).set 3 .bool).set 4 (.int .i64)).set 5 (.int .i64)).set 6 (.int .i64)).set 7 (.int .i64)).set 9 (.int .i64)).set 10 .str).set 11 (.int .i64)).set 12 (.int .i64)).set 13 (.int .i64)).set 14 .bool).set 15 .bool).set 17 (.int .i64)).set 18 (.flt .f64)).set 19 (.int .i64))
inductive Cl where
  | off
  | nan
  | fin
  | lit (bits : Nat)
def Cl.cell : Cl → AV
  | .lit b => .lit (.float .f64 b)
  | _ => .ex (.sym 18)
def sPiece : List AV := [.ex (.sym 9), .ex (.sym 10), .ex (.sym 11), .ex (.sym 12), .ex (.sym 13), .ex (.sym 14), .ex (.sym 15)]
def sMap (cl : Cl) : List AV := [.ex (.sym 17), cl.cell, .ex (.sym 19)]
def isZero : AV → Bool
  | .lit (.float .f64 b) => Nat.beq b 0
  | _ => false
def scon (g r : Option Bool) (cl : Cl) (f : FuncId) (args : List AV) : Option AV :=
  match args with
  | [.ex (.sym 0), .ex (.sym 9)] => match Nat.beq f 40 || Nat.beq f 49 with
    | true => match g with
      | some b => some (.lit (.bool b))
      | none => none
    | false => none
  | [.agg l] => match Nat.beq f 41 || Nat.beq f 50 with
    | true => match sameAll l sPiece with
      | true => match r with
        | some b => some (.lit (.bool b))
        | none => none
      | false => none
    | false => none
  | [.ex (.sym 18)] => match Nat.beq f 42 with
    | true => match cl with
      | .nan => some (.lit (.bool true))
      | .fin => some (.lit (.bool false))
      | _ => none
    | false => none
  | [.ex (.sym 18), .lit (.int .i64 z)] => match Nat.beq f 43 with
    | true => match decide (z = 0) with
      | true => match cl with
        | .fin => some (.lit (.bool false))
        | _ => none
      | false => none
    | false => none
  | _ => none
def sopc (in1 in2 : Bool) (cl : Cl) (op : Op) (g : Operand → AV) : Option AV :=
  match op with
  | .call c => match c.callee with
    | .builtin .len => match c.argTypes.toList with
      | [t] => match c.args.toList with
        | [x] => match g x with
          | .ex (.sym 1) => match Nat.beq t 37 with
            | true => some (.ex (.sym 4))
            | false => none
          | .ex (.sym 2) => match Nat.beq t 38 with
            | true => some (.ex (.sym 7))
            | false => none
          | _ => none
        | _ => none
      | _ => none
    | _ => none
  | .indexAddr t x i => match g x with
    | .ex (.sym 1) => match g i with
      | .ex (.sym 5) => match Nat.beq t 37 && in1 with
        | true => some (.ex (.sym 8))
        | false => none
      | _ => none
    | .ex (.sym 2) => match g i with
      | .ex (.sym 5) => match Nat.beq t 38 && in2 with
        | true => some (.ex (.sym 16))
        | false => none
      | _ => none
    | _ => none
  | .load t p => match g p with
    | .ex (.sym 8) => match Nat.beq t 67 && in1 with
      | true => some (.agg sPiece)
      | false => none
    | .ex (.sym 16) => match Nat.beq t 71 && in2 with
      | true => some (.agg (sMap cl))
      | false => none
    | _ => none
  | .binOp o _ x y _ => match g x with
    | .ex (.sym 18) => match o with
      | .sub => match g y with
        | .ex (.sym 18) => match cl with
          | .fin => some (.lit (.float .f64 0))
          | _ => none
        | _ => none
      | _ => none
    | .nan => match o with
      | .neq => match isZero (g y) with
        | true => some (.lit (.bool true))
        | false => none
      | _ => none
    | _ => none
  | _ => none
def isInf (b : Nat) : Bool := Nat.beq b 9218868437227405312 || Nat.beq b 18442240474082181120
def sopn (cl : Cl) (op : Op) (g : Operand → AV) : Option AV :=
  match op with
  | .binOp o _ x y _ => match o with
    | .sub => match g x with
      | .ex (.sym 18) => match g y with
        | .ex (.sym 18) => match cl with
          | .nan => some .nan
          | _ => none
        | _ => none
      | .lit (.float .f64 b) => match g y with
        | .lit (.float .f64 b') => match Nat.beq b b' with
          | true => match isInf b with
            | true => some .nan
            | false => none
          | false => none
        | _ => none
      | _ => none
    | _ => none
  | _ => none
noncomputable def senv (g r : Option Bool) (in1 in2 : Bool) (cl : Cl) (sy : Rx.Place) (old : Nat → Option (Option Obj)) (facts : List (Exp × Bool)) : Env :=
  env.plus (scon g r cl) (sopc in1 in2 cl) (sopn cl) sy old stys facts
def loopOf : Code → Code
  | .block _ (.loop b) => b
  | _ => .skip
noncomputable def secs14 : List Code := secs (Tryz.f18.body.getD .skip)
noncomputable def secs6 : List Code := secs (Tryz.f25.body.getD .skip)
noncomputable def pre14 : List Code := secs14.take 7
noncomputable def pre6 : List Code := secs6.take 7
noncomputable def la14 : Code := loopOf (secs14[7]?.getD .skip)
noncomputable def la6 : Code := loopOf (secs6[7]?.getD .skip)
noncomputable def mid14 : List Code := (secs14.drop 8).take 3
noncomputable def mid6 : List Code := (secs6.drop 8).take 1
noncomputable def lb14 : Code := loopOf (secs14[11]?.getD .skip)
noncomputable def lb6 : Code := loopOf (secs6[9]?.getD .skip)
noncomputable def post14 : List Code := secs14.drop 12
noncomputable def post6 : List Code := secs6.drop 10
theorem secs14_eq : secs14 = pre14 ++ .block 0 (.loop la14) :: (mid14 ++ .block 2 (.loop lb14) :: post14) := by kernel_rfl
theorem secs6_eq : secs6 = pre6 ++ .block 0 (.loop la6) :: (mid6 ++ .block 2 (.loop lb6) :: post6) := by kernel_rfl
end Go.Proofs.YtkeibmkcgnppeaaGreatDoor.Ck
namespace Go.Proofs.YtkeibmkcgnppeaaGreatDoor.Ck
open Go Go.Proofs.YtkeibmkcgnppeaaGreatDoor.Rx
set_option maxRecDepth 100000
def i64 (n : Int) : AV := .lit (.int .i64 n)
def cmpL (o : BinOp) (k : Nat) (n : Int) : Exp := .bin o (.sym k) (.lit (.int .i64 n))
def sBox : List AV := [.ex (.sym 0), .ex (.sym 1), .ex (.sym 2), .ex (.sym 3)]
def inc (k : Nat) : AV := .ex (.bin .add (.sym k) (.lit (.int .i64 1)))
def sMem : Mem := ⟨21, T.leaf.set 20 (.cells 40 4 (T.ofList sBox) false 0 false)⟩
def stOf (ts : List Nat) (vs : List AV) : St := ⟨(ts.zip vs).foldl (fun F x => F.set x.1 x.2) .leaf, [], sMem, none⟩
def st0 : St := ⟨T.ofList [.agg sBox, i64 256], [], ⟨20, .leaf⟩, none⟩
noncomputable def runL (E : Env) (n : Nat) (l : List Code) (s : St) : Option (AExit × St) := evalL (codeOf (eval E 200)) n l s
def rets (c : Int) (o : Option (AExit × St)) : Bool := after o .ret [4] [i64 c]
def goesOn (ts : List Nat) (vs : List AV) (x : AExit) (o : Option (AExit × St)) : Bool := afterBox o x ts vs 20 40 4 false 0 false sBox
def nBig : Exp := cmpL .gtr 4 64
def mBig : Exp := cmpL .gtr 7 8
def kNeg : Exp := cmpL .lss 0 0
def kBig : Exp := cmpL .gtr 0 7
def kTime : Exp := cmpL .eql 0 5
def okF : List (Exp × Bool) := [(nBig, false), (mBig, false), (kNeg, false), (kBig, false)]
def ts14 : List Nat := [1, 2, 39, 40, 41, 5]
def ts6 : List Nat := [1, 2, 6, 5]
def h14 (i c : AV) : List AV := [i64 256, .ptr 20 0, .ex (.sym 1), .ex (.sym 4), i, c]
def h6 (i c : AV) : List AV := [i64 256, .ptr 20 0, i, c]
section
variable (sy : Rx.Place) (old : Nat → Option (Option Obj))
theorem pre14_a : rets 3 (runL (senv none none false false .off sy old [(nBig, true)]) 117 pre14 st0) = true := by as_aux_lemma => kernel_rfl
theorem pre14_b : rets 3 (runL (senv none none false false .off sy old [(nBig, false), (mBig, true)]) 117 pre14 st0) = true := by as_aux_lemma => kernel_rfl
theorem pre14_c : rets 100 (runL (senv none none false false .off sy old [(nBig, false), (mBig, false), (kNeg, true)]) 117 pre14 st0) = true := by as_aux_lemma => kernel_rfl
theorem pre14_d : rets 100 (runL (senv none none false false .off sy old [(nBig, false), (mBig, false), (kNeg, false), (kBig, true)]) 117 pre14 st0) = true := by as_aux_lemma => kernel_rfl
theorem pre14_e : rets 100 (runL (senv none none false false .off sy old ((.sym 3, true) :: (kTime, false) :: okF)) 117 pre14 st0) = true := by as_aux_lemma => kernel_rfl
theorem pre14_f : goesOn ts14 (h14 (i64 0) (i64 0)) .normal (runL (senv none none false false .off sy old ((.sym 3, true) :: (kTime, true) :: okF)) 117 pre14 st0) = true := by as_aux_lemma => kernel_rfl
theorem pre14_g : goesOn ts14 (h14 (i64 0) (i64 0)) .normal (runL (senv none none false false .off sy old ((.sym 3, false) :: okF)) 117 pre14 st0) = true := by as_aux_lemma => kernel_rfl
theorem pre6_a : rets 3 (runL (senv none none false false .off sy old [(nBig, true)]) 122 pre6 st0) = true := by as_aux_lemma => kernel_rfl
theorem pre6_b : rets 3 (runL (senv none none false false .off sy old [(nBig, false), (mBig, true)]) 122 pre6 st0) = true := by as_aux_lemma => kernel_rfl
theorem pre6_c : rets 100 (runL (senv none none false false .off sy old [(nBig, false), (mBig, false), (kNeg, true)]) 122 pre6 st0) = true := by as_aux_lemma => kernel_rfl
theorem pre6_d : rets 100 (runL (senv none none false false .off sy old [(nBig, false), (mBig, false), (kNeg, false), (kBig, true)]) 122 pre6 st0) = true := by as_aux_lemma => kernel_rfl
theorem pre6_e : rets 100 (runL (senv none none false false .off sy old ((.sym 3, true) :: (kTime, false) :: okF)) 122 pre6 st0) = true := by as_aux_lemma => kernel_rfl
theorem pre6_f : goesOn ts6 (h6 (i64 0) (i64 0)) .normal (runL (senv none none false false .off sy old ((.sym 3, true) :: (kTime, true) :: okF)) 122 pre6 st0) = true := by as_aux_lemma => kernel_rfl
theorem pre6_g : goesOn ts6 (h6 (i64 0) (i64 0)) .normal (runL (senv none none false false .off sy old ((.sym 3, false) :: okF)) 122 pre6 st0) = true := by as_aux_lemma => kernel_rfl
def more : Exp := .bin .lss (.sym 5) (.sym 4)
def num2 : Exp := cmpL .eql 9 2
def num3 : Exp := cmpL .eql 9 3
theorem la14_end : goesOn [1, 2, 5] [i64 256, .ptr 20 0, .ex (.sym 6)] (.exit 0) (runL (senv none none false false .off sy old [(more, false)]) 117 [la14] (stOf ts14 (h14 (.ex (.sym 5)) (.ex (.sym 6))))) = true := by as_aux_lemma => kernel_rfl
theorem la14_bad1 (r : Option Bool) : rets 100 (runL (senv (some false) r true false .off sy old [(more, true)]) 117 [la14] (stOf ts14 (h14 (.ex (.sym 5)) (.ex (.sym 6))))) = true := by as_aux_lemma => kernel_rfl
theorem la14_bad2 : rets 100 (runL (senv (some true) (some false) true false .off sy old [(more, true)]) 117 [la14] (stOf ts14 (h14 (.ex (.sym 5)) (.ex (.sym 6))))) = true := by as_aux_lemma => kernel_rfl
theorem la14_num2 : goesOn ts14 (h14 (inc 5) (inc 6)) .normal (runL (senv (some true) (some true) true false .off sy old [(num2, true), (more, true)]) 117 [la14] (stOf ts14 (h14 (.ex (.sym 5)) (.ex (.sym 6))))) = true := by as_aux_lemma => kernel_rfl
theorem la14_num3 : goesOn ts14 (h14 (inc 5) (inc 6)) .normal (runL (senv (some true) (some true) true false .off sy old [(num2, false), (num3, true), (more, true)]) 117 [la14] (stOf ts14 (h14 (.ex (.sym 5)) (.ex (.sym 6))))) = true := by as_aux_lemma => kernel_rfl
theorem la14_num : goesOn ts14 (h14 (inc 5) (.ex (.sym 6))) .normal (runL (senv (some true) (some true) true false .off sy old [(num2, false), (num3, false), (more, true)]) 117 [la14] (stOf ts14 (h14 (.ex (.sym 5)) (.ex (.sym 6))))) = true := by as_aux_lemma => kernel_rfl
theorem la6_end : goesOn [1, 2, 5] [i64 256, .ptr 20 0, .ex (.sym 6)] (.exit 0) (runL (senv none none false false .off sy old [(more, false)]) 122 [la6] (stOf ts6 (h6 (.ex (.sym 5)) (.ex (.sym 6))))) = true := by as_aux_lemma => kernel_rfl
theorem la6_bad1 (r : Option Bool) : rets 100 (runL (senv (some false) r true false .off sy old [(more, true)]) 122 [la6] (stOf ts6 (h6 (.ex (.sym 5)) (.ex (.sym 6))))) = true := by as_aux_lemma => kernel_rfl
theorem la6_bad2 : rets 100 (runL (senv (some true) (some false) true false .off sy old [(more, true)]) 122 [la6] (stOf ts6 (h6 (.ex (.sym 5)) (.ex (.sym 6))))) = true := by as_aux_lemma => kernel_rfl
theorem la6_num2 : goesOn ts6 (h6 (inc 5) (inc 6)) .normal (runL (senv (some true) (some true) true false .off sy old [(num2, true), (more, true)]) 122 [la6] (stOf ts6 (h6 (.ex (.sym 5)) (.ex (.sym 6))))) = true := by as_aux_lemma => kernel_rfl
theorem la6_num3 : goesOn ts6 (h6 (inc 5) (inc 6)) .normal (runL (senv (some true) (some true) true false .off sy old [(num2, false), (num3, true), (more, true)]) 122 [la6] (stOf ts6 (h6 (.ex (.sym 5)) (.ex (.sym 6))))) = true := by as_aux_lemma => kernel_rfl
theorem la6_num : goesOn ts6 (h6 (inc 5) (.ex (.sym 6))) .normal (runL (senv (some true) (some true) true false .off sy old [(num2, false), (num3, false), (more, true)]) 122 [la6] (stOf ts6 (h6 (.ex (.sym 5)) (.ex (.sym 6))))) = true := by as_aux_lemma => kernel_rfl
def numBig : Exp := cmpL .gtr 6 1
def tm14 : List Nat := [1, 2, 70, 71, 72]
def tm6 : List Nat := [1, 2, 5, 8]
def g14 (i : AV) : List AV := [i64 256, .ptr 20 0, .ex (.sym 2), .ex (.sym 7), i]
def g6 (i : AV) : List AV := [i64 256, .ptr 20 0, .ex (.sym 6), i]
theorem mid14_a : rets 100 (runL (senv none none false false .off sy old [(numBig, true)]) 117 mid14 (stOf [1, 2, 5] [i64 256, .ptr 20 0, .ex (.sym 6)])) = true := by as_aux_lemma => kernel_rfl
theorem mid14_b : goesOn tm14 (g14 (i64 0)) .normal (runL (senv none none false false .off sy old [(numBig, false)]) 117 mid14 (stOf [1, 2, 5] [i64 256, .ptr 20 0, .ex (.sym 6)])) = true := by as_aux_lemma => kernel_rfl
theorem mid6_a : goesOn tm6 (g6 (i64 0)) .normal (runL (senv none none false false .off sy old []) 122 mid6 (stOf [1, 2, 5] [i64 256, .ptr 20 0, .ex (.sym 6)])) = true := by as_aux_lemma => kernel_rfl
theorem post14_a : rets 0 (runL (senv none none false false .off sy old []) 117 post14 (stOf [1, 2] [i64 256, .ptr 20 0])) = true := by as_aux_lemma => kernel_rfl
theorem post6_a : rets 100 (runL (senv none none false false .off sy old [(numBig, true)]) 122 post6 (stOf [1, 2, 5] [i64 256, .ptr 20 0, .ex (.sym 6)])) = true := by as_aux_lemma => kernel_rfl
theorem post6_b : rets 0 (runL (senv none none false false .off sy old [(numBig, false)]) 122 post6 (stOf [1, 2, 5] [i64 256, .ptr 20 0, .ex (.sym 6)])) = true := by as_aux_lemma => kernel_rfl
def more2 : Exp := .bin .lss (.sym 5) (.sym 7)
theorem lb14_end : goesOn [1, 2] [i64 256, .ptr 20 0] (.exit 2) (runL (senv none none false false .off sy old [(more2, false)]) 117 [lb14] (stOf tm14 (g14 (.ex (.sym 5))))) = true := by as_aux_lemma => kernel_rfl
theorem lb6_end : goesOn [1, 2, 5] [i64 256, .ptr 20 0, .ex (.sym 6)] (.exit 2) (runL (senv none none false false .off sy old [(more2, false)]) 122 [lb6] (stOf tm6 (g6 (.ex (.sym 5))))) = true := by as_aux_lemma => kernel_rfl
end
def and2 (a b : Bool) : Bool := match a with
  | true => b
  | false => false
theorem and2_ok {a b : Bool} (h : and2 a b = true) : a = true ∧ b = true := by
  cases a with
  | true => exact ⟨rfl, h⟩
  | false => cases h
noncomputable def chkBad (E : Env) : Bool := and2 (rets 100 (runL E 117 [lb14] (stOf tm14 (g14 (.ex (.sym 5)))))) (rets 100 (runL E 122 [lb6] (stOf tm6 (g6 (.ex (.sym 5))))))
noncomputable def chkGo (E : Env) : Bool :=
  and2 (goesOn tm14 (g14 (inc 5)) .normal (runL E 117 [lb14] (stOf tm14 (g14 (.ex (.sym 5)))))) (goesOn tm6 (g6 (inc 5)) .normal (runL E 122 [lb6] (stOf tm6 (g6 (.ex (.sym 5))))))
noncomputable def chkM (bad : Bool) (E : Env) : Bool :=
  match bad with
  | true => chkBad E
  | false => chkGo E
def vZero : Exp := .bin .eql (.sym 18) (.lit (.float .f64 0))
def mTree (r : Bool) : DB := .node (cmpL .lss 17 18) (.leaf true) (.node (cmpL .gtr 17 23) (.leaf true) (.node (cmpL .lss 19 0) (.leaf true) (.node (cmpL .geq 19 256) (.leaf true) (.leaf r))))
section
variable (sy : Rx.Place) (old : Nat → Option (Option Obj))
theorem map_nan : (mTree true).ok (senv none none false true .nan sy old []) chkM [(more2, true)] = true := by as_aux_lemma => kernel_rfl
theorem map_fin : (mTree false).ok (senv none none false true .fin sy old []) chkM [(vZero, false), (more2, true)] = true := by as_aux_lemma => kernel_rfl
theorem map_inf : (mTree true).ok (senv none none false true (.lit 9218868437227405312) sy old []) chkM [(more2, true)] = true := by as_aux_lemma => kernel_rfl
theorem map_ninf : (mTree true).ok (senv none none false true (.lit 18442240474082181120) sy old []) chkM [(more2, true)] = true := by as_aux_lemma => kernel_rfl
theorem map_zero : (mTree false).ok (senv none none false true (.lit 0) sy old []) chkM [(more2, true)] = true := by as_aux_lemma => kernel_rfl
theorem map_nzero : (mTree true).ok (senv none none false true (.lit 9223372036854775808) sy old []) chkM [(more2, true)] = true := by as_aux_lemma => kernel_rfl
end
end Go.Proofs.YtkeibmkcgnppeaaGreatDoor.Ck

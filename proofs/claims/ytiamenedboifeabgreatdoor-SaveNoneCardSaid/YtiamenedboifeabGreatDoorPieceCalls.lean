/- The program and the document agree on what a piece of a format must be. -/
import Derived.Test.YtiamenedboifeabGreatDoorPiece
import Derived.Test.YtiamenedboifeabGreatDoorValid
namespace Go.Proofs.YtiamenedboifeabGreatDoor
open Go Go.Proofs.YtiamenedboifeabGreatDoor.Rx
set_option maxRecDepth 100000

/-- The blocks that a world has. -/
def oldOf (W : World) : Nat → Option (Option Obj) := fun k => match Nat.blt k W.heap.size with
  | true => some W.heap[k]?
  | false => none

/-- A later world in which everything that W had is as it was. -/
def Later (W w : World) : Prop := W.heap.size ≤ w.heap.size ∧ ∀ k, k < W.heap.size → w.heap[k]? = W.heap[k]?

def Consts (W : World) : Prop := ∀ g off v, env.gcell g off = some v → g < W.heap.size ∧ W.cell? ⟨g, off, none⟩ = some v

theorem Later.still {W w : World} (hg : Consts W) (h : Later W w) {con : FuncId → List AV → Option AV} {opc opn : Op → (Operand → AV) → Option AV} {sy : Rx.Place} {tys : T Ty} {facts : List (Exp × Bool)} :
    (env.plus con opc opn sy (oldOf W) tys facts).Still W.heap.size w := by
  refine ⟨fun g off v hv => ?_, fun k o ho => ?_⟩
  · obtain ⟨h1, h2⟩ := hg g off v hv
    refine ⟨h1, ?_⟩
    simp only [World.cell?] at h2 ⊢
    rw [h.2 g h1]
    exact h2
  · change oldOf W k = some o at ho
    unfold oldOf at ho
    split at ho
    · rename_i hk
      simp only [Option.some.injEq] at ho
      have hk : k < W.heap.size := by simpa [Nat.blt_eq] using hk
      exact ⟨hk, by rw [h.2 k hk, ho]⟩
    · cases ho

theorem still_later {W w : World} {base : Nat} {con : FuncId → List AV → Option AV} {opc opn : Op → (Operand → AV) → Option AV} {sy : Rx.Place} {tys : T Ty} {facts : List (Exp × Bool)}
    (h : (env.plus con opc opn sy (oldOf W) tys facts).Still base w) : ∀ k, k < W.heap.size → w.heap[k]? = W.heap[k]? := fun k hk => by
  have hb : Nat.blt k W.heap.size = true := by simpa [Nat.blt_eq] using hk
  exact (h.2 k W.heap[k]? (by show oldOf W k = _; simp [oldOf, hb])).2

def pvals (k mn pl ex : Int) (s : ByteArray) (g l : Bool) : List Value :=
  [.int .i64 0, .int .i64 k, .string s, .int .i64 mn, .int .i64 pl, .int .i64 ex, .bool g, .bool l, .bool (Lib.validD s.data.toList)]
def prow (k mn pl ex : Int) (s : ByteArray) (g l : Bool) : Value := .agg #[.int .i64 k, .string s, .int .i64 mn, .int .i64 pl, .int .i64 ex, .bool g, .bool l]

theorem ptys_ok {b : Nat} {k mn pl ex : Int} {s : ByteArray} {g l : Bool} : ∀ i t, ptys.get i = some t → ∃ lc, symTab b (pvals k mn pl ex s g l) i = some lc ∧ hasTy lc.val t = true := by
  intro i t h
  unfold ptys at h
  rw [T.get_ofList] at h
  match i, h with
  | 0, h | 1, h | 2, h | 3, h | 4, h | 5, h | 6, h | 7, h | 8, h =>
    simp at h
    subst h
    exact ⟨_, rfl, rfl⟩
  | i + 9, h => simp at h

/-- Both answer the same. -/
def Both (W : World) (f g : FuncId) (args : Array Value) (r : Bool) : Prop :=
  ∀ w, Later W w → Calls Tryz.prog f args w (fun e w' => e = .returned (.bool r) ∧ RowKit.Below w.heap.size w w') ∧ Calls Tryz.prog g args w (fun e w' => e = .returned (.bool r) ∧ RowKit.Below w.heap.size w w')

theorem piece_fin {W : World} (hg : Consts W) (hT : Tabs W) {k mn pl ex : Int} {s : ByteArray} {g l : Bool} (hs : s.size ≤ 9223372036854775807) {row : AV} {d : DT} {fs : List (Exp × Bool)}
    (hrow : VR (symTab W.heap.size (pvals k mn pl ex s g l)) row (prow k mn pl ex s g l)) (hd : ∀ sy old, d.ok (penv sy old) (chkP row) fs = true)
    (hf : ∀ f ∈ fs, f.1.ev (symTab W.heap.size (pvals k mn pl ex s g l)) = some (.bool f.2)) : ∃ r, Both W 38 22 #[prow k mn pl ex s g l] r := by
  obtain ⟨fs', hfs, hchk⟩ := DT.ok_at (E := penv (symTab W.heap.size (pvals k mn pl ex s g l)) (oldOf W)) ptys_ok (hd _ _) hf
  obtain ⟨r, h1, h2⟩ := okB_ok hchk
  have OK : (env.plus (pcon fs') (fun _ _ => none) (fun _ _ => none) (symTab W.heap.size (pvals k mn pl ex s g l)) (oldOf W) ptys fs').OK := by
    refine env_ok.plus ?_ (fun _ _ _ h => by cases h) (fun _ _ _ h => by cases h) ptys_ok hfs
    intro f args v hv base ρ w vals hst hle hbase ha
    unfold pcon at hv
    split at hv
    · rename_i he
      have he := Nat.eq_of_beq_eq_true he
      subst he
      split at hv
      · split at hv
        · rename_i b hb
          simp only [Option.some.injEq] at hv
          subst hv
          simp only [VRs, VR] at ha
          obtain ⟨x, xs, rfl, ⟨hx, _⟩, rfl⟩ := ha
          have hx2 := Exp.ev_mono hle (show (Exp.sym 2).ev (symTab W.heap.size (pvals k mn pl ex s g l)) = some (.string s) from rfl)
          rw [hx, Option.some.injEq] at hx2
          subst hx2
          have hb2 : aValid.ev (symTab W.heap.size (pvals k mn pl ex s g l)) = some (.bool b) := look_ok hfs hb
          have hb3 : aValid.ev (symTab W.heap.size (pvals k mn pl ex s g l)) = some (.bool (Lib.validD s.data.toList)) := rfl
          rw [hb3] at hb2
          simp only [Option.some.injEq, Value.bool.injEq] at hb2
          refine Calls.mono (valid_call s w hs (hT.of_heap (still_later hst))) fun e w' he => ?_
          obtain ⟨rfl, hbel⟩ := he
          exact ⟨_, rfl, by simp only [VR]; rw [hb2], hbel⟩
        · cases hv
      · cases hv
    · cases hv
  refine ⟨r, fun w hw => ⟨?_, ?_⟩⟩
  · exact sym_call OK h1 w rfl hw.1 (show 9 ≤ 16 by decide) (hw.still hg) (vals := [prow k mn pl ex s g l]) (by simp only [VRs]; exact ⟨_, _, rfl, hrow, rfl⟩)
  · exact sym_call OK h2 w rfl hw.1 (show 9 ≤ 16 by decide) (hw.still hg) (vals := [prow k mn pl ex s g l]) (by simp only [VRs]; exact ⟨_, _, rfl, hrow, rfl⟩)

theorem rowE_ok {b : Nat} {k mn pl ex : Int} {g l : Bool} : VR (symTab b (pvals k mn pl ex ⟨#[]⟩ g l)) rowE (prow k mn pl ex ⟨#[]⟩ g l) := by
  simp only [rowE, VR, prow]
  refine ⟨_, rfl, ?_⟩
  simp only [VRs, VR]
  exact ⟨_, _, rfl, ⟨rfl, rfl⟩, _, _, rfl, rfl, _, _, rfl, ⟨rfl, rfl⟩, _, _, rfl, ⟨rfl, rfl⟩, _, _, rfl, ⟨rfl, rfl⟩, _, _, rfl, ⟨rfl, rfl⟩, _, _, rfl, ⟨rfl, rfl⟩, rfl⟩

theorem rowT_ok {b : Nat} {k mn pl ex : Int} {s : ByteArray} {g l : Bool} : VR (symTab b (pvals k mn pl ex s g l)) rowT (prow k mn pl ex s g l) := by
  simp only [rowT, VR, prow]
  refine ⟨_, rfl, ?_⟩
  simp only [VRs, VR]
  exact ⟨_, _, rfl, ⟨rfl, rfl⟩, _, _, rfl, ⟨rfl, rfl⟩, _, _, rfl, ⟨rfl, rfl⟩, _, _, rfl, ⟨rfl, rfl⟩, _, _, rfl, ⟨rfl, rfl⟩, _, _, rfl, ⟨rfl, rfl⟩, _, _, rfl, ⟨rfl, rfl⟩, rfl⟩

theorem kinds15 (k : Int) : k = 0 ∨ k = 1 ∨ k = 2 ∨ k = 3 ∨ k = 4 ∨ k = 5 ∨ k = 6 ∨ k = 7 ∨ k = 8 ∨ k = 9 ∨ k = 10 ∨ k = 11 ∨ k = 12 ∨ k = 13 ∨ k = 14 ∨ k < 0 ∨ 14 < k := by omega

theorem kind_fact {b : Nat} {k mn pl ex : Int} {s : ByteArray} {g l : Bool} : (aKind k).ev (symTab b (pvals k mn pl ex s g l)) = some (.bool true) := by
  have h1 : (Exp.sym 1).ev (symTab b (pvals k mn pl ex s g l)) = some (.int .i64 k) := rfl
  simp only [aKind, Exp.ev] at h1 ⊢
  rw [h1]
  exact cmpInt_ev (by simp [cmpInt])
theorem neg_fact {b : Nat} {k mn pl ex : Int} {s : ByteArray} {g l : Bool} (hk : k < 0) : aNeg.ev (symTab b (pvals k mn pl ex s g l)) = some (.bool true) := by
  have h1 : (Exp.sym 1).ev (symTab b (pvals k mn pl ex s g l)) = some (.int .i64 k) := rfl
  simp only [aNeg, Exp.ev] at h1 ⊢
  rw [h1]
  exact cmpInt_ev (by simp [cmpInt, hk])
theorem big_fact {b : Nat} {k mn pl ex : Int} {s : ByteArray} {g l : Bool} (hk : 14 < k) : aBig.ev (symTab b (pvals k mn pl ex s g l)) = some (.bool true) := by
  have h1 : (Exp.sym 1).ev (symTab b (pvals k mn pl ex s g l)) = some (.int .i64 k) := rfl
  simp only [aBig, Exp.ev] at h1 ⊢
  rw [h1]
  exact cmpInt_ev (by simp [cmpInt, hk])
theorem text_fact {b : Nat} {k mn pl ex : Int} {s : ByteArray} {g l : Bool} (hs : s ≠ ⟨#[]⟩) : aText.ev (symTab b (pvals k mn pl ex s g l)) = some (.bool false) := by
  have h1 : (Exp.sym 2).ev (symTab b (pvals k mn pl ex s g l)) = some (.string s) := rfl
  simp only [aText, Exp.ev] at h1 ⊢
  rw [h1]
  have h2 : (s.toList == (⟨#[]⟩ : ByteArray).toList) = false := by
    rw [beq_eq_false_iff_ne]
    intro h
    rw [ByteArray.toList_eq, ByteArray.toList_eq] at h
    exact hs (ByteArray.ext (Array.ext' h))
  show pure0 (Op.stringOp .eql s ⟨#[]⟩) = _
  simp only [Op.stringOp, pure, pure0, h2]

theorem one_fact {σ : Rx.Place} {e : Exp} {b : Bool} (h : e.ev σ = some (.bool b)) : ∀ f ∈ [(e, b)], f.1.ev σ = some (.bool f.2) := by
  intro f hf
  rw [List.mem_singleton] at hf
  subst hf
  exact h
theorem two_facts {σ : Rx.Place} {e e' : Exp} {b b' : Bool} (h : e.ev σ = some (.bool b)) (h' : e'.ev σ = some (.bool b')) : ∀ f ∈ [(e, b), (e', b')], f.1.ev σ = some (.bool f.2) := by
  intro f hf
  rcases List.mem_cons.1 hf with rfl | hf
  · exact h
  · exact one_fact h' f hf

/-- A PIECE: the program's answer is the document's. -/
theorem piece_calls {W : World} (hg : Consts W) (hT : Tabs W) (k mn pl ex : Int) (s : ByteArray) (g l : Bool) (hs : s.size ≤ 9223372036854775807) : ∃ r, Both W 38 22 #[prow k mn pl ex s g l] r := by
  by_cases he : s = ⟨#[]⟩
  · subst he
    rcases kinds15 k with rfl | rfl | rfl | rfl | rfl | rfl | rfl | rfl | rfl | rfl | rfl | rfl | rfl | rfl | rfl | h | h
    · exact piece_fin hg hT hs rowE_ok pe0 (one_fact kind_fact)
    · exact piece_fin hg hT hs rowE_ok pe1 (one_fact kind_fact)
    · exact piece_fin hg hT hs rowE_ok pe2 (one_fact kind_fact)
    · exact piece_fin hg hT hs rowE_ok pe3 (one_fact kind_fact)
    · exact piece_fin hg hT hs rowE_ok pe4 (one_fact kind_fact)
    · exact piece_fin hg hT hs rowE_ok pe5 (one_fact kind_fact)
    · exact piece_fin hg hT hs rowE_ok pe6 (one_fact kind_fact)
    · exact piece_fin hg hT hs rowE_ok pe7 (one_fact kind_fact)
    · exact piece_fin hg hT hs rowE_ok pe8 (one_fact kind_fact)
    · exact piece_fin hg hT hs rowE_ok pe9 (one_fact kind_fact)
    · exact piece_fin hg hT hs rowE_ok pe10 (one_fact kind_fact)
    · exact piece_fin hg hT hs rowE_ok pe11 (one_fact kind_fact)
    · exact piece_fin hg hT hs rowE_ok pe12 (one_fact kind_fact)
    · exact piece_fin hg hT hs rowE_ok pe13 (one_fact kind_fact)
    · exact piece_fin hg hT hs rowE_ok pe14 (one_fact kind_fact)
    · exact piece_fin hg hT hs rowE_ok peNeg (one_fact (neg_fact h))
    · exact piece_fin hg hT hs rowE_ok peBig (one_fact (big_fact h))
  · rcases kinds15 k with rfl | rfl | rfl | rfl | rfl | rfl | rfl | rfl | rfl | rfl | rfl | rfl | rfl | rfl | rfl | h | h
    · exact piece_fin hg hT hs rowT_ok pt0 (two_facts kind_fact (text_fact he))
    · exact piece_fin hg hT hs rowT_ok pt1 (two_facts kind_fact (text_fact he))
    · exact piece_fin hg hT hs rowT_ok pt2 (two_facts kind_fact (text_fact he))
    · exact piece_fin hg hT hs rowT_ok pt3 (two_facts kind_fact (text_fact he))
    · exact piece_fin hg hT hs rowT_ok pt4 (two_facts kind_fact (text_fact he))
    · exact piece_fin hg hT hs rowT_ok pt5 (two_facts kind_fact (text_fact he))
    · exact piece_fin hg hT hs rowT_ok pt6 (two_facts kind_fact (text_fact he))
    · exact piece_fin hg hT hs rowT_ok pt7 (two_facts kind_fact (text_fact he))
    · exact piece_fin hg hT hs rowT_ok pt8 (two_facts kind_fact (text_fact he))
    · exact piece_fin hg hT hs rowT_ok pt9 (two_facts kind_fact (text_fact he))
    · exact piece_fin hg hT hs rowT_ok pt10 (two_facts kind_fact (text_fact he))
    · exact piece_fin hg hT hs rowT_ok pt11 (two_facts kind_fact (text_fact he))
    · exact piece_fin hg hT hs rowT_ok pt12 (two_facts kind_fact (text_fact he))
    · exact piece_fin hg hT hs rowT_ok pt13 (two_facts kind_fact (text_fact he))
    · exact piece_fin hg hT hs rowT_ok pt14 (two_facts kind_fact (text_fact he))
    · exact piece_fin hg hT hs rowT_ok ptNeg (two_facts (neg_fact h) (text_fact he))
    · exact piece_fin hg hT hs rowT_ok ptBig (two_facts (big_fact h) (text_fact he))
end Go.Proofs.YtiamenedboifeabGreatDoor

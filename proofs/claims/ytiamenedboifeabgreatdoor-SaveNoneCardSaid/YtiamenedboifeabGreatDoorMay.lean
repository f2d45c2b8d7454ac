/- Which pieces a format of a kind may have: the program's answer and the document's, gone through together. -/
import Derived.Test.YtiamenedboifeabGreatDoorPieceCalls
namespace Go.Proofs.YtiamenedboifeabGreatDoor
open Go Go.Proofs.YtiamenedboifeabGreatDoor.Rx
set_option maxRecDepth 100000

def gvals (k p : Int) : List Value := [.int .i64 k, .int .i64 p]
def gtys : T Ty := T.ofList [.int .i64, .int .i64]
noncomputable def genv (sy : Rx.Place) (old : Nat → Option (Option Obj)) : Env := env.plus (fun _ _ => none) (fun _ _ => none) (fun _ _ => none) sy old gtys []
def fKind (k : Int) : Exp := .bin .eql (.sym 0) (.lit (.int .i64 k))
def chkG (E : Env) : Bool :=
  okB (ans (eval E 200 (.call (.fn 37) [.ex (.sym 0), .ex (.sym 1)] ⟨16, .leaf⟩))) (ans (eval E 200 (.call (.fn 21) [.ex (.sym 0), .ex (.sym 1)] ⟨16, .leaf⟩)))
def pieces : List (Exp × Bool) := [(aKind 0, true), (aKind 1, true), (aKind 2, true), (aKind 3, true), (aKind 4, true), (aKind 5, true), (aKind 6, true), (aKind 7, true), (aKind 8, true), (aKind 9, true),
  (aKind 10, true), (aKind 11, true), (aKind 12, true), (aKind 13, true), (aKind 14, true), (aNeg, true), (aBig, true)]
def allG (E : Env) (k : Int) : List (Exp × Bool) → Bool
  | [] => true
  | f :: r => match chkG (E.with [f, (fKind k, true)]) with
    | true => allG E k r
    | false => false
theorem allG_ok {E : Env} {k : Int} : ∀ {l : List (Exp × Bool)}, allG E k l = true → ∀ f ∈ l, chkG (E.with [f, (fKind k, true)]) = true
  | [], _, f, hf => by cases hf
  | g :: r, h, f, hf => by
    simp only [allG] at h
    split at h
    · rename_i h1
      rcases List.mem_cons.1 hf with rfl | hf
      · exact h1
      · exact allG_ok h f hf
    · cases h
theorem may0 (sy : Rx.Place) (old : Nat → Option (Option Obj)) : allG (genv sy old) 0 pieces = true := by as_aux_lemma => kernel_rfl
theorem may1 (sy : Rx.Place) (old : Nat → Option (Option Obj)) : allG (genv sy old) 1 pieces = true := by as_aux_lemma => kernel_rfl
theorem may2 (sy : Rx.Place) (old : Nat → Option (Option Obj)) : allG (genv sy old) 2 pieces = true := by as_aux_lemma => kernel_rfl
theorem may3 (sy : Rx.Place) (old : Nat → Option (Option Obj)) : allG (genv sy old) 3 pieces = true := by as_aux_lemma => kernel_rfl
theorem may4 (sy : Rx.Place) (old : Nat → Option (Option Obj)) : allG (genv sy old) 4 pieces = true := by as_aux_lemma => kernel_rfl
theorem may5 (sy : Rx.Place) (old : Nat → Option (Option Obj)) : allG (genv sy old) 5 pieces = true := by as_aux_lemma => kernel_rfl
theorem may6 (sy : Rx.Place) (old : Nat → Option (Option Obj)) : allG (genv sy old) 6 pieces = true := by as_aux_lemma => kernel_rfl
theorem may7 (sy : Rx.Place) (old : Nat → Option (Option Obj)) : allG (genv sy old) 7 pieces = true := by as_aux_lemma => kernel_rfl
theorem gtys_ok {b : Nat} {k p : Int} : ∀ i t, gtys.get i = some t → ∃ lc, symTab b (gvals k p) i = some lc ∧ hasTy lc.val t = true := by
  intro i t h
  unfold gtys at h
  rw [T.get_ofList] at h
  match i, h with
  | 0, h | 1, h =>
    simp at h
    subst h
    exact ⟨_, rfl, rfl⟩
  | i + 2, h => simp at h

theorem may_fin {W : World} (hg : Consts W) {k p : Int} {f : Exp × Bool} (hm : f ∈ pieces) (hf : f.1.ev (symTab W.heap.size (gvals k p)) = some (.bool f.2)) (ha : ∀ sy old, allG (genv sy old) k pieces = true) :
    ∃ r, Both W 37 21 #[.int .i64 k, .int .i64 p] r := by
  have hk : (fKind k).ev (symTab W.heap.size (gvals k p)) = some (.bool true) := by
    have h1 : (Exp.sym 0).ev (symTab W.heap.size (gvals k p)) = some (.int .i64 k) := rfl
    simp only [fKind, Exp.ev] at h1 ⊢
    rw [h1]
    exact cmpInt_ev (by simp [cmpInt])
  obtain ⟨r, h1, h2⟩ := okB_ok (allG_ok (ha (symTab W.heap.size (gvals k p)) (oldOf W)) f hm)
  have OK : (env.plus (fun _ _ => none) (fun _ _ => none) (fun _ _ => none) (symTab W.heap.size (gvals k p)) (oldOf W) gtys [f, (fKind k, true)]).OK :=
    env_ok.plus (fun _ _ _ h => by cases h) (fun _ _ _ h => by cases h) (fun _ _ _ h => by cases h) gtys_ok (two_facts hf hk)
  have hv : VRs (symTab W.heap.size (gvals k p)) [.ex (.sym 0), .ex (.sym 1)] [.int .i64 k, .int .i64 p] := by
    simp only [VRs, VR]
    exact ⟨_, _, rfl, ⟨rfl, rfl⟩, _, _, rfl, ⟨rfl, rfl⟩, rfl⟩
  refine ⟨r, fun w hw => ⟨?_, ?_⟩⟩
  · exact sym_call OK h1 w rfl hw.1 (show 2 ≤ 16 by decide) (hw.still hg) hv
  · exact sym_call OK h2 w rfl hw.1 (show 2 ≤ 16 by decide) (hw.still hg) hv

theorem piece_kind {b : Nat} (k p : Int) : ∃ f ∈ pieces, f.1.ev (symTab b (gvals k p)) = some (.bool f.2) := by
  have h1 : (Exp.sym 1).ev (symTab b (gvals k p)) = some (.int .i64 p) := rfl
  have eq : ∀ i : Int, p = i → (aKind i).ev (symTab b (gvals k p)) = some (.bool true) := fun i hi => by
    simp only [aKind, Exp.ev] at h1 ⊢
    rw [h1]
    exact cmpInt_ev (by simp [cmpInt, hi])
  rcases kinds15 p with h | h | h | h | h | h | h | h | h | h | h | h | h | h | h | h | h
  · exact ⟨(aKind 0, true), by simp [pieces], eq 0 h⟩
  · exact ⟨(aKind 1, true), by simp [pieces], eq 1 h⟩
  · exact ⟨(aKind 2, true), by simp [pieces], eq 2 h⟩
  · exact ⟨(aKind 3, true), by simp [pieces], eq 3 h⟩
  · exact ⟨(aKind 4, true), by simp [pieces], eq 4 h⟩
  · exact ⟨(aKind 5, true), by simp [pieces], eq 5 h⟩
  · exact ⟨(aKind 6, true), by simp [pieces], eq 6 h⟩
  · exact ⟨(aKind 7, true), by simp [pieces], eq 7 h⟩
  · exact ⟨(aKind 8, true), by simp [pieces], eq 8 h⟩
  · exact ⟨(aKind 9, true), by simp [pieces], eq 9 h⟩
  · exact ⟨(aKind 10, true), by simp [pieces], eq 10 h⟩
  · exact ⟨(aKind 11, true), by simp [pieces], eq 11 h⟩
  · exact ⟨(aKind 12, true), by simp [pieces], eq 12 h⟩
  · exact ⟨(aKind 13, true), by simp [pieces], eq 13 h⟩
  · exact ⟨(aKind 14, true), by simp [pieces], eq 14 h⟩
  · refine ⟨(aNeg, true), by simp [pieces], ?_⟩
    simp only [aNeg, Exp.ev] at h1 ⊢
    rw [h1]
    exact cmpInt_ev (by simp [cmpInt, h])
  · refine ⟨(aBig, true), by simp [pieces], ?_⟩
    simp only [aBig, Exp.ev] at h1 ⊢
    rw [h1]
    exact cmpInt_ev (by simp [cmpInt, h])

/-- WHICH PIECES: the program's answer is the document's. -/
theorem may_calls {W : World} (hg : Consts W) (k p : Int) (h0 : 0 ≤ k) (h7 : k ≤ 7) : ∃ r, Both W 37 21 #[.int .i64 k, .int .i64 p] r := by
  obtain ⟨f, hm, hf⟩ := piece_kind (b := W.heap.size) k p
  have hk : k = 0 ∨ k = 1 ∨ k = 2 ∨ k = 3 ∨ k = 4 ∨ k = 5 ∨ k = 6 ∨ k = 7 := by omega
  rcases hk with rfl | rfl | rfl | rfl | rfl | rfl | rfl | rfl
  · exact may_fin hg hm hf may0
  · exact may_fin hg hm hf may1
  · exact may_fin hg hm hf may2
  · exact may_fin hg hm hf may3
  · exact may_fin hg hm hf may4
  · exact may_fin hg hm hf may5
  · exact may_fin hg hm hf may6
  · exact may_fin hg hm hf may7
end Go.Proofs.YtiamenedboifeabGreatDoor

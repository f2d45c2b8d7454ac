/- Texts that are valid. -/
import Derived.Test.YtkeibmkcgnppeaaGreatDoorZGa
import Derived.Test.YtkeibmkcgnppeaaGreatDoorZFd
import Derived.Deep.RegionHeld3
import Derived.Deep.DrawnRows
import Derived.Deep.DeepCutAuto
import Derived.Deep.RegionLaw
import Derived.Lib.RuneCountTail
import Derived.Laws.RangeAny
import Derived.Lib.OthersKept
import Derived.Lib.Replace
import Derived.Lib.CountLaws
import Derived.Lib.Join
set_option maxHeartbeats 32000000
set_option linter.unusedSimpArgs false
set_option linter.unusedVariables false
namespace Go.Proofs.YtkeibmkcgnppeaaGreatDoor.Ck
open Go Go.Proofs.YtkeibmkcgnppeaaGreatDoor.Rx
set_option maxRecDepth 100000
noncomputable def fnsC : T Func := (.node .none (.node .none (.node .none (.node .none .leaf (.node .none (.node .none (.node .none .leaf (.node (some Tryz.f72) .leaf .leaf)) .leaf) .leaf)) (.node .none (.node .none (.node .none (.node .none .leaf (.node .none .leaf (.node (some Tryz.f196) .leaf .leaf))) (.node .none (.node .none .leaf (.node (some Tryz.f164) .leaf .leaf)) .leaf)) (.node .none (.node .none (.node .none .leaf (.node (some Tryz.f148) .leaf .leaf)) .leaf) .leaf)) .leaf)) .leaf) (.node .none (.node .none (.node .none (.node .none .leaf (.node .none (.node .none (.node .none .leaf (.node (some Tryz.f145) .leaf .leaf)) .leaf) .leaf)) (.node .none (.node .none (.node .none .leaf (.node (some Tryz.f73) .leaf .leaf)) .leaf) .leaf)) .leaf) (.node .none (.node .none .leaf (.node .none .leaf (.node .none .leaf (.node .none (.node .none .leaf (.node (some Tryz.f187) .leaf .leaf)) .leaf)))) .leaf)))
theorem fnsC_ok : T.All (fun f fn => Tryz.prog.funcs[f]? = some fn ∧ ∀ args w, (callFunc f args).run Tryz.prog w = .ok (.enter f args) w) 0 1 fnsC := ⟨trivial, ⟨trivial, ⟨trivial, ⟨trivial, trivial, ⟨trivial, ⟨trivial, ⟨trivial, trivial, ⟨⟨Tryz.func72, Tryz.call72⟩, trivial, trivial⟩⟩, trivial⟩, trivial⟩⟩, ⟨trivial, ⟨trivial, ⟨trivial, ⟨trivial, trivial, ⟨trivial, trivial, ⟨⟨Tryz.func196, Tryz.call196⟩, trivial, trivial⟩⟩⟩, ⟨trivial, ⟨trivial, trivial, ⟨⟨Tryz.func164, Tryz.call164⟩, trivial, trivial⟩⟩, trivial⟩⟩, ⟨trivial, ⟨trivial, ⟨trivial, trivial, ⟨⟨Tryz.func148, Tryz.call148⟩, trivial, trivial⟩⟩, trivial⟩, trivial⟩⟩, trivial⟩⟩, trivial⟩, ⟨trivial, ⟨trivial, ⟨trivial, ⟨trivial, trivial, ⟨trivial, ⟨trivial, ⟨trivial, trivial, ⟨⟨Tryz.func145, Tryz.call145⟩, trivial, trivial⟩⟩, trivial⟩, trivial⟩⟩, ⟨trivial, ⟨trivial, ⟨trivial, trivial, ⟨⟨Tryz.func73, Tryz.call73⟩, trivial, trivial⟩⟩, trivial⟩, trivial⟩⟩, trivial⟩, ⟨trivial, ⟨trivial, trivial, ⟨trivial, trivial, ⟨trivial, trivial, ⟨trivial, ⟨trivial, trivial, ⟨⟨Tryz.func187, Tryz.call187⟩, trivial, trivial⟩⟩, trivial⟩⟩⟩⟩, trivial⟩⟩⟩
noncomputable def envC : Env := { env with fn := fnsC }
theorem envC_ok : envC.OK where
  mixed := by kernel_rfl
  fn := fun f fn h => by
    have := fnsC_ok.get h
    rw [Nat.zero_add, Nat.one_mul] at this
    exact this
  ext := env_ok.ext
  con := fun _ _ _ h => by cases h
  opc := fun _ _ _ h => by cases h
  opn := fun _ _ _ h => by cases h
  ty := fun _ _ h => by simp [envC, env] at h
  fact := fun _ h => by cases h
def cvals (n : Int) : List Value := [.int .i32 n]
def ctys : T Ty := T.ofList [.int .i32]
noncomputable def cenv (sy : Rx.Place) (old : Nat → Option (Option Obj)) : Env := envC.plus (fun _ _ => none) (fun _ _ => none) (fun _ _ => none) sy old ctys []
def cge (n : Int) : Exp := .bin .geq (.sym 0) (.lit (.int .i32 n))
def cle (n : Int) : Exp := .bin .leq (.sym 0) (.lit (.int .i32 n))
def chkC (b : Bool) (E : Env) : Bool :=
  match saysB b (ans (eval E 200 (.call (.fn 187) [.ex (.sym 0)] ⟨16, .leaf⟩))) with
  | true => saysB b (ans (eval E 200 (.call (.fn 164) [.ex (.sym 0)] ⟨16, .leaf⟩)))
  | false => false
section
variable (sy : Rx.Place) (old : Nat → Option (Option Obj))
theorem char0 : chkC false ((cenv sy old).with [(cle 8, true)]) = true := by as_aux_lemma => kernel_rfl
theorem char1 : chkC true ((cenv sy old).with [(cge 9, true), (cle 9, true)]) = true := by as_aux_lemma => kernel_rfl
theorem char1' : chkC true ((cenv sy old).with [(cge 10, true), (cle 10, true)]) = true := by as_aux_lemma => kernel_rfl
theorem char2 : chkC false ((cenv sy old).with [(cge 11, true), (cle 12, true)]) = true := by as_aux_lemma => kernel_rfl
theorem char3 : chkC true ((cenv sy old).with [(cge 13, true), (cle 13, true)]) = true := by as_aux_lemma => kernel_rfl
theorem char4 : chkC false ((cenv sy old).with [(cge 14, true), (cle 31, true)]) = true := by as_aux_lemma => kernel_rfl
theorem char5 : chkC true ((cenv sy old).with [(cge 32, true), (cle 55295, true)]) = true := by as_aux_lemma => kernel_rfl
theorem char6 : chkC false ((cenv sy old).with [(cge 55296, true), (cle 57343, true)]) = true := by as_aux_lemma => kernel_rfl
theorem char7 : chkC true ((cenv sy old).with [(cge 57344, true), (cle 65533, true)]) = true := by as_aux_lemma => kernel_rfl
theorem char8 : chkC false ((cenv sy old).with [(cge 65534, true), (cle 65535, true)]) = true := by as_aux_lemma => kernel_rfl
theorem char9 : chkC true ((cenv sy old).with [(cge 65536, true), (cle 1114111, true)]) = true := by as_aux_lemma => kernel_rfl
theorem char10 : chkC false ((cenv sy old).with [(cge 1114112, true)]) = true := by as_aux_lemma => kernel_rfl
end
theorem chkC_ok {b : Bool} {E : Env} (h : chkC b E = true) : ans (eval E 200 (.call (.fn 187) [.ex (.sym 0)] ⟨16, .leaf⟩)) = some (.bool b) ∧ ans (eval E 200 (.call (.fn 164) [.ex (.sym 0)] ⟨16, .leaf⟩)) = some (.bool b) := by
  unfold chkC at h
  split at h
  · rename_i h1
    exact ⟨saysB_ok h1, saysB_ok h⟩
  · cases h
theorem ctys_ok {b : Nat} {n : Int} : ∀ i t, ctys.get i = some t → ∃ lc, symTab b (cvals n) i = some lc ∧ hasTy lc.val t = true := by
  intro i t h
  unfold ctys at h
  rw [T.get_ofList] at h
  match i, h with
  | 0, h =>
    simp at h
    subst h
    exact ⟨_, rfl, rfl⟩
  | i + 1, h => simp at h
def charOk (n : Int) : Bool := (decide (9 ≤ n) && decide (n ≤ 10)) || decide (n = 13) || (decide (32 ≤ n) && decide (n ≤ 55295)) || (decide (57344 ≤ n) && decide (n ≤ 65533)) || (decide (65536 ≤ n) && decide (n ≤ 1114111))
theorem char_fin {W : World} (hg : Consts W) {n : Int} {b : Bool} {facts : List (Exp × Bool)} (hf : ∀ f ∈ facts, f.1.ev (symTab W.heap.size (cvals n)) = some (.bool f.2)) (ha : ∀ sy old, chkC b ((cenv sy old).with facts) = true) :
    Both W 187 164 #[.int .i32 n] b := by
  obtain ⟨h1, h2⟩ := chkC_ok (ha (symTab W.heap.size (cvals n)) (oldOf W))
  have OK : (envC.plus (fun _ _ => none) (fun _ _ => none) (fun _ _ => none) (symTab W.heap.size (cvals n)) (oldOf W) ctys facts).OK :=
    envC_ok.plus (fun _ _ _ h => by cases h) (fun _ _ _ h => by cases h) (fun _ _ _ h => by cases h) ctys_ok hf
  have hv : VRs (symTab W.heap.size (cvals n)) [.ex (.sym 0)] [.int .i32 n] := by
    simp only [VRs, VR]
    exact ⟨_, _, rfl, ⟨rfl, rfl⟩, rfl⟩
  intro w hw
  have st : (envC.plus (fun _ _ => none) (fun _ _ => none) (fun _ _ => none) (symTab W.heap.size (cvals n)) (oldOf W) ctys facts).Still W.heap.size w :=
    hw.still hg (con := fun _ _ => none) (opc := fun _ _ => none) (opn := fun _ _ => none) (sy := symTab W.heap.size (cvals n)) (tys := ctys) (facts := facts)
  exact ⟨sym_call OK h1 w rfl hw.1 (show 1 ≤ 16 by decide) st hv, sym_call OK h2 w rfl hw.1 (show 1 ≤ 16 by decide) st hv⟩
theorem char_both {W : World} (hg : Consts W) (n : Int) : Both W 187 164 #[.int .i32 n] (charOk n) := by
  have ge : ∀ c : Int, c ≤ n → (cge c).ev (symTab W.heap.size (cvals n)) = some (.bool true) := fun c h => by
    have h1 : (Exp.sym 0).ev (symTab W.heap.size (cvals n)) = some (.int .i32 n) := rfl
    simp only [cge, Exp.ev] at h1 ⊢
    rw [h1]
    exact cmpInt_ev (by simp [cmpInt, h])
  have le : ∀ c : Int, n ≤ c → (cle c).ev (symTab W.heap.size (cvals n)) = some (.bool true) := fun c h => by
    have h1 : (Exp.sym 0).ev (symTab W.heap.size (cvals n)) = some (.int .i32 n) := rfl
    simp only [cle, Exp.ev] at h1 ⊢
    rw [h1]
    exact cmpInt_ev (by simp [cmpInt, h])
  have sw : ∀ b, charOk n = b → Both W 187 164 #[.int .i32 n] b → Both W 187 164 #[.int .i32 n] (charOk n) := fun b h h' => by rw [h]; exact h'
  have hc : (n ≤ 8) ∨ (n = 9) ∨ (n = 10) ∨ (11 ≤ n ∧ n ≤ 12) ∨ (n = 13) ∨ (14 ≤ n ∧ n ≤ 31) ∨ (32 ≤ n ∧ n ≤ 55295) ∨ (55296 ≤ n ∧ n ≤ 57343) ∨ (57344 ≤ n ∧ n ≤ 65533) ∨ (65534 ≤ n ∧ n ≤ 65535) ∨ (65536 ≤ n ∧ n ≤ 1114111) ∨ 1114112 ≤ n := by omega
  have no : charOk n = false ↔ ¬ ((9 ≤ n ∧ n ≤ 10) ∨ n = 13 ∨ (32 ≤ n ∧ n ≤ 55295) ∨ (57344 ≤ n ∧ n ≤ 65533) ∨ (65536 ≤ n ∧ n ≤ 1114111)) := by
    rw [Bool.eq_false_iff]
    unfold charOk
    simp only [Bool.or_eq_true, Bool.and_eq_true, decide_eq_true_eq, ne_eq, or_assoc]
  have yes : charOk n = true ↔ ((9 ≤ n ∧ n ≤ 10) ∨ n = 13 ∨ (32 ≤ n ∧ n ≤ 55295) ∨ (57344 ≤ n ∧ n ≤ 65533) ∨ (65536 ≤ n ∧ n ≤ 1114111)) := by
    unfold charOk
    simp only [Bool.or_eq_true, Bool.and_eq_true, decide_eq_true_eq, or_assoc]
  rcases hc with h | h | h | h | h | h | h | h | h | h | h | h
  · exact sw false (no.2 (by omega)) (char_fin hg (one_fact (le 8 (by omega))) char0)
  · exact sw true (yes.2 (by omega)) (char_fin hg (two_facts (ge 9 (by omega)) (le 9 (by omega))) char1)
  · exact sw true (yes.2 (by omega)) (char_fin hg (two_facts (ge 10 (by omega)) (le 10 (by omega))) char1')
  · exact sw false (no.2 (by omega)) (char_fin hg (two_facts (ge 11 (by omega)) (le 12 (by omega))) char2)
  · exact sw true (yes.2 (by omega)) (char_fin hg (two_facts (ge 13 (by omega)) (le 13 (by omega))) char3)
  · exact sw false (no.2 (by omega)) (char_fin hg (two_facts (ge 14 (by omega)) (le 31 (by omega))) char4)
  · exact sw true (yes.2 (by omega)) (char_fin hg (two_facts (ge 32 (by omega)) (le 55295 (by omega))) char5)
  · exact sw false (no.2 (by omega)) (char_fin hg (two_facts (ge 55296 (by omega)) (le 57343 (by omega))) char6)
  · exact sw true (yes.2 (by omega)) (char_fin hg (two_facts (ge 57344 (by omega)) (le 65533 (by omega))) char7)
  · exact sw false (no.2 (by omega)) (char_fin hg (two_facts (ge 65534 (by omega)) (le 65535 (by omega))) char8)
  · exact sw true (yes.2 (by omega)) (char_fin hg (two_facts (ge 65536 (by omega)) (le 1114111 (by omega))) char9)
  · exact sw false (no.2 (by omega)) (char_fin hg (one_fact (ge 1114112 (by omega))) char10)
end Go.Proofs.YtkeibmkcgnppeaaGreatDoor.Ck
namespace Go.Proofs.YtkeibmkcgnppeaaGreatDoor
open Go Go.RowKit
set_option maxRecDepth 100000
attribute [local go_sem ↓] Go.wp_at_zero Go.wp_at_succ
theorem decode_tail (s : ByteArray) (pos : Nat) (h : pos < s.size) : Lib.decodeGo (s.extract pos s.size) = Utf8.decode s pos := by
  have h0 : ¬ (s.extract pos s.size).size = 0 := by rw [Lib.tail_size]; omega
  simp only [Lib.decodeGo, h0, if_false, Lib.tail_decode, Nat.add_zero]
def badRune (r k : Nat) : Bool := (decide (r = 65533) && decide (k = 1)) || !Ck.charOk r
def validFrom (s : ByteArray) : Nat → Nat → Bool
  | 0, _ => true
  | g + 1, pos => if pos < s.size then if badRune (Utf8.decode s pos).1 (Utf8.decode s pos).2 then false else validFrom s g (pos + (Utf8.decode s pos).2) else true
def validT (s : ByteArray) : Bool := validFrom s s.size 0
open Go Go.RowKit
set_option maxRecDepth 100000
attribute [local go_sem ↓] Go.wp_at_zero Go.wp_at_succ
theorem bad_call {W : World} (hg : Ck.Consts W) (R K : Nat) (w : World) (hw : Ck.Later W w) :
    Calls Tryz.prog 145 #[.int .i32 (R : Int), .int .i64 (K : Int)] w fun e w' => e = .returned (.bool (badRune R K)) ∧ Below w.heap.size w w' := by
  have cC := (Ck.char_both hg (R : Int) w hw).1
  clear hg hw
  go_enter Tryz.func145, Tryz.ntmps145
  by_cases h1 : R = 65533 ∧ K = 1
  · obtain ⟨rfl, rfl⟩ := h1
    go_wp2_with fail
    go_ret
    exact ⟨rfl, Below.refl _ _⟩
  · have hbr : badRune R K = !Ck.charOk R := by
      have : (decide (R = 65533) && decide (K = 1)) = false := by
        rw [Bool.eq_false_iff]
        simpa using h1
      simp only [badRune, this, Bool.false_or]
    rw [hbr]
    by_cases hRe : R = 65533
    · subst hRe
      have hK1 : ((K : Int) == 1) = false := by rw [beq_eq_false_iff_ne]; omega
      clear hbr h1
      generalize Ck.charOk ((65533 : Nat) : Int) = q at cC ⊢
      cases q
      all_goals (
        go_wp2_with (go_at_call 187; refine cC.mono ?_; rintro e W2 ⟨rfl, hb2⟩)
        go_ret
        exact ⟨rfl, hb2⟩)
    · have hR1 : ((R : Int) == 65533) = false := by rw [beq_eq_false_iff_ne]; omega
      clear hbr h1 hRe
      generalize Ck.charOk (R : Int) = q at cC ⊢
      cases q
      all_goals (
        go_wp2_with (go_at_call 187; refine cC.mono ?_; rintro e W2 ⟨rfl, hb2⟩)
        go_ret
        exact ⟨rfl, hb2⟩)
theorem iter_below {B k : Nat} {w w' : World} {s : ByteArray} {p : Nat} (h : Below B w w') (hk : B ≤ k) : Below B w (w'.iterAt k s p) := by
  refine ⟨h.os, h.tape, h.output, ?_, fun j hj => ?_⟩
  · simpa [World.iterAt] using h.size
  · have : k ≠ j := by omega
    simpa [World.iterAt, this] using h.block j hj
theorem chars_valid {W : World} (hg : Ck.Consts W) (hT : Ck.Tabs W) (s : ByteArray) (hs : s.size ≤ 9223372036854775807) (w : World) (hw : Ck.Later W w) :
    Calls Tryz.prog 101 #[.string s] w fun e w' => (∃ i : Int, e = .returned (.tuple #[.int .i64 i, .bool (validT s)])) ∧ Below w.heap.size w w' := by
  have Hw := Lib.hid hw
  have HT := Lib.hid hT
  have Hg := Lib.hid hg
  clear hw hT hg
  go_enter Tryz.func101, Tryz.ntmps101
  go_wp2
  go_loopw [] (fun wx => ∃ pos gf : Nat, wx.heap[w.heap.size]? = some (.stringIter s pos) ∧ pos ≤ s.size ∧ Below w.heap.size w wx ∧ validFrom s gf pos = validT s ∧ s.size ≤ pos + gf) (fun w' => s.size - w'.iterPos w.heap.size)
  case atStart => exact ⟨0, s.size, heap_alloc_new _ _, Nat.zero_le _, (Below.refl _ _).alloc (Nat.le_refl _) _, rfl, by omega⟩
  case round =>
    obtain ⟨pos, gk, hk, hpos, hbw, hleft, hfu⟩ := hrel
    by_cases hps : pos < s.size
    · obtain ⟨g', rfl⟩ : ∃ g', gk = g' + 1 := ⟨gk - 1, by omega⟩
      have hnx : ∀ ty, (Instr.next (.pointer (some ⟨w.heap.size, 0, none⟩)) true ty).run Tryz.prog wr = _ := fun ty => Lib.run_next_any_at wr w.heap.size s pos ty hk hps
      have hpz : (pos : Int) < (s.size : Int) := by omega
      have hit := Lib.iterAt_heap wr w.heap.size s pos (pos + (Utf8.decode s pos).2) hk
      have hbi : Below w.heap.size w (wr.iterAt w.heap.size s (pos + (Utf8.decode s pos).2)) := iter_below hbw (Nat.le_refl _)
      have hl : Ck.Later W (wr.iterAt w.heap.size s (pos + (Utf8.decode s pos).2)) := ⟨Nat.le_trans Hw.out.1 hbi.size, fun k hk => (hbi.block k (Nat.lt_of_lt_of_le hk Hw.out.1)).trans (Hw.out.2 k hk)⟩
      have cD := Tryz.utf8_DecodeRuneInString (s.extract pos s.size) _ (HT.out.of_heap hl.2)
      have hk2 := Lib.decodeGo_le_size (s.extract pos s.size)
      rw [Lib.tail_size] at hk2
      rw [decode_tail s pos hps] at cD hk2
      have hwd := Lib.width_pos s pos
      obtain ⟨R, hR⟩ : ∃ R, (Utf8.decode s pos).1 = R := ⟨_, rfl⟩
      obtain ⟨K, hK⟩ : ∃ K, (Utf8.decode s pos).2 = K := ⟨_, rfl⟩
      simp only [validFrom, hps, if_true, hR, hK] at hleft
      simp only [hR, hK] at cD hnx hit hbi hl hk2 hwd
      generalize wr.iterAt w.heap.size s (pos + K) = wi at cD hnx hit hbi hl
      have Hl := Lib.hid hl
      have Hit := Lib.hid hit
      have Hleft := Lib.hid hleft
      clear hl hleft hR hK hit
      have hq0 : (0 : Int) ≤ (pos : Int) := by omega
      have hq1 : (pos : Int) ≤ (s.size : Int) := by omega
      have lz := lt_of_some Hit.out
      go_wp2_with (first
        | (go_at_call 118; refine cD.mono ?_; rintro e W1 ⟨rfl, hb1⟩; have hbW : Below w.heap.size w W1 := hbi.trans (hb1.mono hbi.size); have cB := bad_call Hg.out R K W1 ⟨Nat.le_trans Hl.out.1 hb1.size, fun k hk => (hb1.block k (Nat.lt_of_lt_of_le hk Hl.out.1)).trans (Hl.out.2 k hk)⟩; generalize hbd : badRune R K = bd at cB; cases bd)
        | (go_at_call 145; refine cB.mono ?_; rintro e W2 ⟨rfl, hb2⟩))
      · have hv : validFrom s g' (pos + K) = validT s := by
          have := Hleft.out
          rw [hbd] at this
          simpa using this
        have hb3 : Below wi.heap.size wi W2 := hb1.trans (hb2.mono hb1.size)
        have hit2 := (hb3.block w.heap.size lz).trans Hit.out
        go_roundw
        case rel => exact ⟨pos + K, g', hit2, by omega, hbi.trans (hb3.mono hbi.size), hv, by omega⟩
        case measure =>
          simp only [World.iterPos, hit2, hk]
          omega
      · have hv : validT s = false := by
          have := Hleft.out
          rw [hbd] at this
          simpa using this.symm
        go_ret2
        exact ⟨⟨pos, by first | rfl | (rw [hv]; rfl)⟩, hbW.trans (hb2.mono hbW.size)⟩
    · have hv : validT s = true := by
        rw [← hleft]
        cases gk with
        | zero => rfl
        | succ g => simp only [validFrom, hps, if_false]
      have hnx : ∀ ty, (Instr.next (.pointer (some ⟨w.heap.size, 0, none⟩)) true ty).run Tryz.prog wr = _ := fun ty => Lib.run_next_end_at wr w.heap.size s pos ty hk hps
      go_wp2_with fail
      go_ret2
      exact ⟨⟨0, by first | rfl | (rw [hv]; rfl)⟩, hbw⟩
open Go Go.RowKit
set_option maxRecDepth 100000
attribute [local go_sem ↓] Go.wp_at_zero Go.wp_at_succ
theorem sign44 {v : Nat} (b : Bool) (hv : (v = 0 ∧ b = false) ∨ (v = 9223372036854775808 ∧ b = true)) (w : World) : Calls Tryz.prog 44 #[.float .f64 v] w fun e w' => e = .returned (.bool b) ∧ w' = w := by
  rcases hv with ⟨rfl, rfl⟩ | ⟨rfl, rfl⟩
  · have h1 := fun w => run_bits87 0 w
    go_enter Tryz.func44, Tryz.ntmps44
    go_wp2_with fail
    go_ret
    exact ⟨rfl, rfl⟩
  · have h1 := fun w => run_bits87 9223372036854775808 w
    go_enter Tryz.func44, Tryz.ntmps44
    go_wp2_with fail
    go_ret
    refine ⟨?_, rfl⟩
    show Ending.returned (.bool (decide (wrap64 9223372036854775808 < 0))) = _
    rw [show decide (wrap64 9223372036854775808 < 0) = true by decide +kernel]
theorem run_fquo {a b c : Nat} (h : FloatKind.f64.format.div a b = some c) (w : World) : (binOp .quo 22 (.float .f64 a) (.float .f64 b)).run Tryz.prog w = .ok (.float .f64 c) w := by
  simp [binOp, Op.floatCmp, Op.floatArith, h]
end Go.Proofs.YtkeibmkcgnppeaaGreatDoor
namespace Go.Proofs.YtkeibmkcgnppeaaGreatDoor.Ru
open Go Go.Proofs.YtkeibmkcgnppeaaGreatDoor.Rx
set_option maxRecDepth 100000
def tBet : ByteArray := ⟨#[105, 115, 45, 98, 101, 116, 119, 101, 101, 110, 40]⟩
def tComma : ByteArray := ⟨#[44]⟩
def tEnd : ByteArray := ⟨#[41]⟩
def tWhole : ByteArray := ⟨#[111, 102, 58, 99, 101, 108, 108, 45, 99, 111, 110, 116, 101, 110, 116, 45, 105, 115, 45, 119, 104, 111, 108, 101, 45, 110, 117, 109, 98, 101, 114, 40, 41, 32, 97, 110, 100, 32, 99, 101, 108, 108, 45, 99, 111, 110, 116, 101, 110, 116, 45]⟩
def tDec : ByteArray := ⟨#[111, 102, 58, 99, 101, 108, 108, 45, 99, 111, 110, 116, 101, 110, 116, 45, 105, 115, 45, 100, 101, 99, 105, 109, 97, 108, 45, 110, 117, 109, 98, 101, 114, 40, 41, 32, 97, 110, 100, 32, 99, 101, 108, 108, 45, 99, 111, 110, 116, 101, 110, 116, 45]⟩
def tLen : ByteArray := ⟨#[111, 102, 58, 99, 101, 108, 108, 45, 99, 111, 110, 116, 101, 110, 116, 45, 116, 101, 120, 116, 45, 108, 101, 110, 103, 116, 104, 45]⟩
structure RV where
  lo : Nat := 0
  hi : Nat := 0
  l : Value := .slice none 0 0
  n : Nat := 0
  k : Int := 0
  t1 : ByteArray := ⟨#[]⟩
  t2 : ByteArray := ⟨#[]⟩
  s : Value := .bool false
  p : Value := .bool false
  c : Value := .bool false
  q : Value := .bool false
def RV.x1 (S : RV) : ByteArray := tBet ++ S.t1
def RV.x2 (S : RV) : ByteArray := S.x1 ++ tComma
def RV.x3 (S : RV) : ByteArray := S.x2 ++ S.t2
def RV.x4 (S : RV) : ByteArray := S.x3 ++ tEnd
def RV.vals (S : RV) : List Value := [.float .f64 S.lo, .float .f64 S.hi, S.l, .int .i64 S.n, .int .i64 S.k, .string S.t1, .string S.t2, S.s, S.p, S.c, S.q, .string S.x1, .string S.x2, .string S.x3, .string S.x4, .string (tWhole ++ S.x4), .string (tDec ++ S.x4), .string (tLen ++ S.x4)]
def RV.row (S : RV) : List Value := [.int .i64 S.k, .float .f64 S.lo, .float .f64 S.hi, S.l]
open Go Go.Proofs.YtkeibmkcgnppeaaGreatDoor.Rx
set_option maxRecDepth 100000
theorem facts_cons {σ : Rx.Place} {e : Exp} {b : Bool} {l : List (Exp × Bool)} (h : e.ev σ = some (.bool b)) (h' : ∀ f ∈ l, f.1.ev σ = some (.bool f.2)) : ∀ f ∈ (e, b) :: l, f.1.ev σ = some (.bool f.2) := by
  intro f hf
  rcases List.mem_cons.1 hf with rfl | hf
  · exact h
  · exact h' f hf
theorem facts_nil {σ : Rx.Place} : ∀ f ∈ ([] : List (Exp × Bool)), f.1.ev σ = some (.bool f.2) := fun f hf => by cases hf
end Go.Proofs.YtkeibmkcgnppeaaGreatDoor.Ru
namespace Go.Proofs.YtkeibmkcgnppeaaGreatDoor
open Go
set_option maxRecDepth 100000
def quoteB : List UInt8 → List UInt8
  | [] => []
  | b :: t => (if b = 34 then [34, 34] else [b]) ++ quoteB t
theorem quoteB_len : ∀ a : List UInt8, (quoteB a).length ≤ 2 * a.length
  | [] => Nat.le_refl _
  | x :: a => by
    have := quoteB_len a
    simp only [quoteB, List.length_append, List.length_cons]
    split <;> simp <;> omega
theorem index_cons_ne {b c : UInt8} (h : b ≠ c) (t : List UInt8) : Lib.index (b :: t) [c] = if Lib.index t [c] == -1 then -1 else Lib.index t [c] + 1 := by
  rw [Lib.index_one, Lib.index_one]
  simp only [Lib.indexByte]
  rw [if_neg (by simpa using h)]
theorem index_cons_eq {c : UInt8} (t : List UInt8) : Lib.index (c :: t) [c] = ((0 : Nat) : Int) := by
  rw [Lib.index_one]
  simp [Lib.indexByte]
theorem replaceK_quote : ∀ l : List UInt8, Lib.replaceK [34] [34, 34] (Lib.count l [34]) l = quoteB l
  | [] => by
    have : Lib.index [] [34] = -1 := rfl
    rw [Lib.count_miss this]
    rfl
  | b :: t => by
    have ih := replaceK_quote t
    by_cases h : b = 34
    · subst h
      rw [Lib.count_hit (i := 0) (by simp) (index_cons_eq t)]
      have hd : List.drop (0 + ([34] : List UInt8).length) ((34 : UInt8) :: t) = t := rfl
      rw [hd, Nat.add_comm, Lib.replaceK_hit _ _ _ _ 0 (index_cons_eq t), hd, ih]
      simp [quoteB]
    · have hq : quoteB (b :: t) = b :: quoteB t := by simp [quoteB, h]
      rw [hq, ← ih]
      have hi := index_cons_ne h t
      rcases Lib.index_spec t [34] with ⟨h1, _⟩ | ⟨i, h1, _⟩
      · rw [h1] at hi
        have hi : Lib.index (b :: t) [34] = -1 := hi
        rw [Lib.count_miss hi, Lib.count_miss h1]
        rfl
      · rw [h1] at hi
        have hi : Lib.index (b :: t) [34] = ((i + 1 : Nat) : Int) := by
          rw [hi, if_neg (by rw [beq_iff_eq]; omega)]
          rfl
        rw [Lib.count_hit (by simp) hi, Lib.count_hit (by simp) h1]
        have hd : List.drop (i + 1 + ([34] : List UInt8).length) (b :: t) = t.drop (i + ([34] : List UInt8).length) := rfl
        rw [hd, Nat.add_comm 1, Lib.replaceK_hit _ _ _ _ _ hi, Lib.replaceK_hit _ _ _ _ _ h1, hd]
        simp
theorem replaceAll_quote (l : List UInt8) : Lib.replaceAll l [34] [34, 34] = quoteB l := by
  unfold Lib.replaceAll Lib.replace
  rw [if_neg (by decide)]
  have : Lib.replaceNum l [34] (-1) = Lib.count l [34] := by
    unfold Lib.replaceNum
    rw [if_pos (.inl (by decide))]
  rw [this, replaceK_quote]
theorem count_quote_le : ∀ l : List UInt8, Lib.count l [34] ≤ l.length
  | [] => by
    have : Lib.index [] [34] = -1 := rfl
    rw [Lib.count_miss this]
    exact Nat.zero_le _
  | b :: t => by
    have ih := count_quote_le t
    by_cases h : b = 34
    · subst h
      rw [Lib.count_hit (i := 0) (by simp) (index_cons_eq t)]
      have hd : List.drop (0 + ([34] : List UInt8).length) ((34 : UInt8) :: t) = t := rfl
      rw [hd]
      simp
      omega
    · have hi := index_cons_ne h t
      rcases Lib.index_spec t [34] with ⟨h1, _⟩ | ⟨i, h1, _⟩
      · rw [h1] at hi
        have hi : Lib.index (b :: t) [34] = -1 := hi
        rw [Lib.count_miss hi]
        exact Nat.zero_le _
      · rw [h1] at hi
        have hi : Lib.index (b :: t) [34] = ((i + 1 : Nat) : Int) := by
          rw [hi, if_neg (by rw [beq_iff_eq]; omega)]
          rfl
        rw [Lib.count_hit (by simp) hi]
        rw [Lib.count_hit (by simp) h1] at ih
        have hd : List.drop (i + 1 + ([34] : List UInt8).length) (b :: t) = t.drop (i + ([34] : List UInt8).length) := rfl
        rw [hd]
        have hl : (b :: t).length = t.length + 1 := rfl
        omega
open Go Go.RowKit
set_option maxRecDepth 100000
attribute [local go_sem ↓] Go.wp_at_zero Go.wp_at_succ
theorem Consts.later {W w : World} (h : Consts W) (hl : Later W w) : Consts w := by
  intro g off v hv
  obtain ⟨h1, h2⟩ := h g off v hv
  refine ⟨Nat.lt_of_lt_of_le h1 hl.1, ?_⟩
  simp only [World.cell?] at h2 ⊢
  rw [hl.2 g h1]
  exact h2
theorem Later.trans {W w v : World} (h : Later W w) (k : Later w v) : Later W v := ⟨Nat.le_trans h.1 k.1, fun j hj => (k.2 j (Nat.lt_of_lt_of_le hj h.1)).trans (h.2 j hj)⟩
end Go.Proofs.YtkeibmkcgnppeaaGreatDoor

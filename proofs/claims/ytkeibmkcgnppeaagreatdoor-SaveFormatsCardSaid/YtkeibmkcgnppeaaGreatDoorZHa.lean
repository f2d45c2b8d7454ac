/- Texts and bounds that a rule may have. -/
import Derived.Test.YtkeibmkcgnppeaaGreatDoorZGe
import Derived.Lib.RuneCountTail
import Derived.Laws.RangeAny
import Derived.Lib.OthersKept
namespace Go.Proofs.YtkeibmkcgnppeaaGreatDoor.Ck
open Go Go.Proofs.YtkeibmkcgnppeaaGreatDoor.Rx
set_option maxRecDepth 100000
noncomputable def fnsC : T Func := (.node .none (.node .none (.node .none (.node .none .leaf (.node .none (.node .none (.node .none .leaf (.node (some Tryz.f72) .leaf .leaf)) .leaf) .leaf)) (.node .none (.node .none (.node .none (.node .none .leaf (.node .none .leaf (.node (some Tryz.f196) .leaf .leaf))) (.node .none (.node .none .leaf (.node (some Tryz.f164) .leaf .leaf)) .leaf)) (.node .none (.node .none (.node .none .leaf (.node (some Tryz.f148) .leaf .leaf)) .leaf) .leaf)) .leaf)) .leaf) (.node .none (.node .none (.node .none (.node .none .leaf (.node .none (.node .none (.node .none .leaf (.node (some Tryz.f145) .leaf .leaf)) .leaf) .leaf)) (.node .none (.node .none (.node .none .leaf (.node (some Tryz.f73) .leaf .leaf)) .leaf) .leaf)) .leaf) (.node .none (.node .none .leaf (.node .none .leaf (.node .none .leaf (.node .none (.node .none .leaf (.node (some Tryz.f187) .leaf .leaf)) .leaf)))) .leaf)))
theorem fnsC_ok : T.All (fun f fn => Tryz.prog.funcs[f]? = some fn ∧ ∀ args w, (callFunc f args).run Tryz.prog w = .ok (.enter f args) w) 0 1 fnsC := ⟨trivial, ⟨trivial, ⟨trivial, ⟨trivial, trivial, ⟨trivial, ⟨trivial, ⟨trivial, trivial, ⟨⟨Tryz.func72, Tryz.call72⟩, trivial, trivial⟩⟩, trivial⟩, trivial⟩⟩, ⟨trivial, ⟨trivial, ⟨trivial, ⟨trivial, trivial, ⟨trivial, trivial, ⟨⟨Tryz.func196, Tryz.call196⟩, trivial, trivial⟩⟩⟩, ⟨trivial, ⟨trivial, trivial, ⟨⟨Tryz.func164, Tryz.call164⟩, trivial, trivial⟩⟩, trivial⟩⟩, ⟨trivial, ⟨trivial, ⟨trivial, trivial, ⟨⟨Tryz.func148, Tryz.call148⟩, trivial, trivial⟩⟩, trivial⟩, trivial⟩⟩, trivial⟩⟩, trivial⟩, ⟨trivial, ⟨trivial, ⟨trivial, ⟨trivial, trivial, ⟨trivial, ⟨trivial, ⟨trivial, trivial, ⟨⟨Tryz.func145, Tryz.call145⟩, trivial, trivial⟩⟩, trivial⟩, trivial⟩⟩, ⟨trivial, ⟨trivial, ⟨trivial, trivial, ⟨⟨Tryz.func73, Tryz.call73⟩, trivial, trivial⟩⟩, trivial⟩, trivial⟩⟩, trivial⟩, ⟨trivial, ⟨trivial, trivial, ⟨trivial, trivial, ⟨trivial, trivial, ⟨trivial, ⟨trivial, trivial, ⟨⟨Tryz.func187, Tryz.call187⟩, trivial, trivial⟩⟩, trivial⟩⟩⟩⟩, trivial⟩⟩⟩
noncomputable def envC : Env := { env with fn := fnsC }
theorem envC_ok : envC.OK where
  mixed := by kernel_rfl
  fn := fun f fn h => by
    have := fnsC_ok.get h
    rw [Nat.zero_add, Nat.one_mul] at this
    exact this
  ext := env_ok.ext
  con := fun _ _ _ h => by cases h
  opc := fun _ _ _ h => by cases h
  opn := fun _ _ _ h => by cases h
  ty := fun _ _ h => by simp [envC, env] at h
  fact := fun _ h => by cases h
def cvals (n : Int) : List Value := [.int .i32 n]
def ctys : T Ty := T.ofList [.int .i32]
noncomputable def cenv (sy : Rx.Place) (old : Nat → Option (Option Obj)) : Env := envC.plus (fun _ _ => none) (fun _ _ => none) (fun _ _ => none) sy old ctys []
def cge (n : Int) : Exp := .bin .geq (.sym 0) (.lit (.int .i32 n))
def cle (n : Int) : Exp := .bin .leq (.sym 0) (.lit (.int .i32 n))
def chkC (b : Bool) (E : Env) : Bool :=
  match saysB b (ans (eval E 200 (.call (.fn 187) [.ex (.sym 0)] ⟨16, .leaf⟩))) with
  | true => saysB b (ans (eval E 200 (.call (.fn 164) [.ex (.sym 0)] ⟨16, .leaf⟩)))
  | false => false
section
variable (sy : Rx.Place) (old : Nat → Option (Option Obj))
theorem char0 : chkC false ((cenv sy old).with [(cle 8, true)]) = true := by as_aux_lemma => kernel_rfl
theorem char1 : chkC true ((cenv sy old).with [(cge 9, true), (cle 9, true)]) = true := by as_aux_lemma => kernel_rfl
theorem char1' : chkC true ((cenv sy old).with [(cge 10, true), (cle 10, true)]) = true := by as_aux_lemma => kernel_rfl
theorem char2 : chkC false ((cenv sy old).with [(cge 11, true), (cle 12, true)]) = true := by as_aux_lemma => kernel_rfl
theorem char3 : chkC true ((cenv sy old).with [(cge 13, true), (cle 13, true)]) = true := by as_aux_lemma => kernel_rfl
theorem char4 : chkC false ((cenv sy old).with [(cge 14, true), (cle 31, true)]) = true := by as_aux_lemma => kernel_rfl
theorem char5 : chkC true ((cenv sy old).with [(cge 32, true), (cle 55295, true)]) = true := by as_aux_lemma => kernel_rfl
theorem char6 : chkC false ((cenv sy old).with [(cge 55296, true), (cle 57343, true)]) = true := by as_aux_lemma => kernel_rfl
theorem char7 : chkC true ((cenv sy old).with [(cge 57344, true), (cle 65533, true)]) = true := by as_aux_lemma => kernel_rfl
theorem char8 : chkC false ((cenv sy old).with [(cge 65534, true), (cle 65535, true)]) = true := by as_aux_lemma => kernel_rfl
theorem char9 : chkC true ((cenv sy old).with [(cge 65536, true), (cle 1114111, true)]) = true := by as_aux_lemma => kernel_rfl
theorem char10 : chkC false ((cenv sy old).with [(cge 1114112, true)]) = true := by as_aux_lemma => kernel_rfl
end
theorem chkC_ok {b : Bool} {E : Env} (h : chkC b E = true) : ans (eval E 200 (.call (.fn 187) [.ex (.sym 0)] ⟨16, .leaf⟩)) = some (.bool b) ∧ ans (eval E 200 (.call (.fn 164) [.ex (.sym 0)] ⟨16, .leaf⟩)) = some (.bool b) := by
  unfold chkC at h
  split at h
  · rename_i h1
    exact ⟨saysB_ok h1, saysB_ok h⟩
  · cases h
theorem ctys_ok {b : Nat} {n : Int} : ∀ i t, ctys.get i = some t → ∃ lc, symTab b (cvals n) i = some lc ∧ hasTy lc.val t = true := by
  intro i t h
  unfold ctys at h
  rw [T.get_ofList] at h
  match i, h with
  | 0, h =>
    simp at h
    subst h
    exact ⟨_, rfl, rfl⟩
  | i + 1, h => simp at h
def charOk (n : Int) : Bool := (decide (9 ≤ n) && decide (n ≤ 10)) || decide (n = 13) || (decide (32 ≤ n) && decide (n ≤ 55295)) || (decide (57344 ≤ n) && decide (n ≤ 65533)) || (decide (65536 ≤ n) && decide (n ≤ 1114111))
theorem char_fin {W : World} (hg : Consts W) {n : Int} {b : Bool} {facts : List (Exp × Bool)} (hf : ∀ f ∈ facts, f.1.ev (symTab W.heap.size (cvals n)) = some (.bool f.2)) (ha : ∀ sy old, chkC b ((cenv sy old).with facts) = true) :
    Both W 187 164 #[.int .i32 n] b := by
  obtain ⟨h1, h2⟩ := chkC_ok (ha (symTab W.heap.size (cvals n)) (oldOf W))
  have OK : (envC.plus (fun _ _ => none) (fun _ _ => none) (fun _ _ => none) (symTab W.heap.size (cvals n)) (oldOf W) ctys facts).OK :=
    envC_ok.plus (fun _ _ _ h => by cases h) (fun _ _ _ h => by cases h) (fun _ _ _ h => by cases h) ctys_ok hf
  have hv : VRs (symTab W.heap.size (cvals n)) [.ex (.sym 0)] [.int .i32 n] := by
    simp only [VRs, VR]
    exact ⟨_, _, rfl, ⟨rfl, rfl⟩, rfl⟩
  intro w hw
  have st : (envC.plus (fun _ _ => none) (fun _ _ => none) (fun _ _ => none) (symTab W.heap.size (cvals n)) (oldOf W) ctys facts).Still W.heap.size w :=
    hw.still hg (con := fun _ _ => none) (opc := fun _ _ => none) (opn := fun _ _ => none) (sy := symTab W.heap.size (cvals n)) (tys := ctys) (facts := facts)
  exact ⟨sym_call OK h1 w rfl hw.1 (show 1 ≤ 16 by decide) st hv, sym_call OK h2 w rfl hw.1 (show 1 ≤ 16 by decide) st hv⟩
theorem char_both {W : World} (hg : Consts W) (n : Int) : Both W 187 164 #[.int .i32 n] (charOk n) := by
  have ge : ∀ c : Int, c ≤ n → (cge c).ev (symTab W.heap.size (cvals n)) = some (.bool true) := fun c h => by
    have h1 : (Exp.sym 0).ev (symTab W.heap.size (cvals n)) = some (.int .i32 n) := rfl
    simp only [cge, Exp.ev] at h1 ⊢
    rw [h1]
    exact cmpInt_ev (by simp [cmpInt, h])
  have le : ∀ c : Int, n ≤ c → (cle c).ev (symTab W.heap.size (cvals n)) = some (.bool true) := fun c h => by
    have h1 : (Exp.sym 0).ev (symTab W.heap.size (cvals n)) = some (.int .i32 n) := rfl
    simp only [cle, Exp.ev] at h1 ⊢
    rw [h1]
    exact cmpInt_ev (by simp [cmpInt, h])
  have sw : ∀ b, charOk n = b → Both W 187 164 #[.int .i32 n] b → Both W 187 164 #[.int .i32 n] (charOk n) := fun b h h' => by rw [h]; exact h'
  have hc : (n ≤ 8) ∨ (n = 9) ∨ (n = 10) ∨ (11 ≤ n ∧ n ≤ 12) ∨ (n = 13) ∨ (14 ≤ n ∧ n ≤ 31) ∨ (32 ≤ n ∧ n ≤ 55295) ∨ (55296 ≤ n ∧ n ≤ 57343) ∨ (57344 ≤ n ∧ n ≤ 65533) ∨ (65534 ≤ n ∧ n ≤ 65535) ∨ (65536 ≤ n ∧ n ≤ 1114111) ∨ 1114112 ≤ n := by omega
  have no : charOk n = false ↔ ¬ ((9 ≤ n ∧ n ≤ 10) ∨ n = 13 ∨ (32 ≤ n ∧ n ≤ 55295) ∨ (57344 ≤ n ∧ n ≤ 65533) ∨ (65536 ≤ n ∧ n ≤ 1114111)) := by
    rw [Bool.eq_false_iff]
    unfold charOk
    simp only [Bool.or_eq_true, Bool.and_eq_true, decide_eq_true_eq, ne_eq, or_assoc]
  have yes : charOk n = true ↔ ((9 ≤ n ∧ n ≤ 10) ∨ n = 13 ∨ (32 ≤ n ∧ n ≤ 55295) ∨ (57344 ≤ n ∧ n ≤ 65533) ∨ (65536 ≤ n ∧ n ≤ 1114111)) := by
    unfold charOk
    simp only [Bool.or_eq_true, Bool.and_eq_true, decide_eq_true_eq, or_assoc]
  rcases hc with h | h | h | h | h | h | h | h | h | h | h | h
  · exact sw false (no.2 (by omega)) (char_fin hg (one_fact (le 8 (by omega))) char0)
  · exact sw true (yes.2 (by omega)) (char_fin hg (two_facts (ge 9 (by omega)) (le 9 (by omega))) char1)
  · exact sw true (yes.2 (by omega)) (char_fin hg (two_facts (ge 10 (by omega)) (le 10 (by omega))) char1')
  · exact sw false (no.2 (by omega)) (char_fin hg (two_facts (ge 11 (by omega)) (le 12 (by omega))) char2)
  · exact sw true (yes.2 (by omega)) (char_fin hg (two_facts (ge 13 (by omega)) (le 13 (by omega))) char3)
  · exact sw false (no.2 (by omega)) (char_fin hg (two_facts (ge 14 (by omega)) (le 31 (by omega))) char4)
  · exact sw true (yes.2 (by omega)) (char_fin hg (two_facts (ge 32 (by omega)) (le 55295 (by omega))) char5)
  · exact sw false (no.2 (by omega)) (char_fin hg (two_facts (ge 55296 (by omega)) (le 57343 (by omega))) char6)
  · exact sw true (yes.2 (by omega)) (char_fin hg (two_facts (ge 57344 (by omega)) (le 65533 (by omega))) char7)
  · exact sw false (no.2 (by omega)) (char_fin hg (two_facts (ge 65534 (by omega)) (le 65535 (by omega))) char8)
  · exact sw true (yes.2 (by omega)) (char_fin hg (two_facts (ge 65536 (by omega)) (le 1114111 (by omega))) char9)
  · exact sw false (no.2 (by omega)) (char_fin hg (one_fact (ge 1114112 (by omega))) char10)
end Go.Proofs.YtkeibmkcgnppeaaGreatDoor.Ck
namespace Go.Proofs.YtkeibmkcgnppeaaGreatDoor
open Go Go.RowKit
set_option maxRecDepth 100000
attribute [local go_sem ↓] Go.wp_at_zero Go.wp_at_succ
theorem decode_tail (s : ByteArray) (pos : Nat) (h : pos < s.size) : Lib.decodeGo (s.extract pos s.size) = Utf8.decode s pos := by
  have h0 : ¬ (s.extract pos s.size).size = 0 := by rw [Lib.tail_size]; omega
  simp only [Lib.decodeGo, h0, if_false, Lib.tail_decode, Nat.add_zero]
def badRune (r k : Nat) : Bool := (decide (r = 65533) && decide (k = 1)) || !Ck.charOk r
def validFrom (s : ByteArray) : Nat → Nat → Bool
  | 0, _ => true
  | g + 1, pos => if pos < s.size then if badRune (Utf8.decode s pos).1 (Utf8.decode s pos).2 then false else validFrom s g (pos + (Utf8.decode s pos).2) else true
def validT (s : ByteArray) : Bool := validFrom s s.size 0
set_option maxHeartbeats 4000000 in
theorem ref_valid {W : World} (hg : Ck.Consts W) (hT : Ck.Tabs W) (s : ByteArray) (hs : s.size ≤ 9223372036854775807) (w : World) (hw : Ck.Later W w) :
    Calls Tryz.prog 121 #[.string s] w fun e w' => (∃ i : Int, e = .returned (.tuple #[.int .i64 i, .bool (validT s)])) ∧ Below w.heap.size w w' := by
  have Hw := Lib.hid hw
  have HT := Lib.hid hT
  have Hg := Lib.hid hg
  clear hw hT hg
  go_enter Tryz.func121, Tryz.ntmps121
  go_wp2
  go_loopg [4] s.size (fun gf s4 wx => ∃ pos : Nat, s4 = .int .i64 pos ∧ pos ≤ s.size ∧ Below w.heap.size w wx ∧ validFrom s gf pos = validT s ∧ s.size ≤ pos + gf)
  case atStart => exact ⟨0, rfl, Nat.zero_le _, Below.refl _ _, rfl, by omega⟩
  case round =>
    obtain ⟨pos, rfl, hpos, hbw, hleft, hfu⟩ := hrel
    by_cases hps : pos < s.size
    · obtain ⟨g', rfl⟩ : ∃ g', gk = g' + 1 := ⟨gk - 1, by omega⟩
      have hpz : (pos : Int) < (s.size : Int) := by omega
      have hl : Ck.Later W wr := ⟨Nat.le_trans Hw.out.1 hbw.size, fun k hk => (hbw.block k (Nat.lt_of_lt_of_le hk Hw.out.1)).trans (Hw.out.2 k hk)⟩
      have cD := Tryz.utf8_DecodeRuneInString (s.extract pos s.size) wr (HT.out.of_heap hl.2)
      have hk2 := Lib.decodeGo_le_size (s.extract pos s.size)
      rw [Lib.tail_size] at hk2
      rw [decode_tail s pos hps] at cD hk2
      have hwd := Lib.width_pos s pos
      have hr1 := Lib.rune_le s pos
      obtain ⟨R, hR⟩ : ∃ R, (Utf8.decode s pos).1 = R := ⟨_, rfl⟩
      obtain ⟨K, hK⟩ : ∃ K, (Utf8.decode s pos).2 = K := ⟨_, rfl⟩
      simp only [validFrom, hps, if_true, hR, hK] at hleft
      rw [hR, hK] at cD
      rw [hK] at hwd hk2
      rw [hR] at hr1
      have Hl := Lib.hid hl
      clear hl
      have hq0 : (0 : Int) ≤ (pos : Int) := by omega
      have hq1 : (pos : Int) ≤ (s.size : Int) := by omega
      go_upto_region 4 with (go_at_call 118; refine cD.mono ?_; rintro e W1 ⟨rfl, hb1⟩)
      have hbW : Below w.heap.size w W1 := hbw.trans (hb1.mono hbw.size)
      have hl1 : Ck.Later W W1 := ⟨Nat.le_trans Hl.out.1 hb1.size, fun k hk => (hb1.block k (Nat.lt_of_lt_of_le hk Hl.out.1)).trans (Hl.out.2 k hk)⟩
      have cC := (Ck.char_both Hg.out (R : Int) W1 hl1).2
      clear hl1
      by_cases h1 : R = 65533 ∧ K = 1
      · obtain ⟨rfl, rfl⟩ := h1
        simp only [badRune, decide_true, Bool.and_self, Bool.true_or, if_true] at hleft
        go_wp2_with fail
        go_ret2
        exact ⟨⟨pos, by rw [← hleft]; rfl⟩, hbW⟩
      · have hb0 : (((R : Int) == 65533) && ((K : Int) == 1)) = false := by
          rw [Bool.eq_false_iff]
          simp only [ne_eq, Bool.and_eq_true, beq_iff_eq]
          omega
        have hbr : badRune R K = !Ck.charOk R := by
          have : (decide (R = 65533) && decide (K = 1)) = false := by
            rw [Bool.eq_false_iff]
            simpa using h1
          simp only [badRune, this, Bool.false_or]
        rw [hbr] at hleft
        clear hbr hb0
        cases hco : Ck.charOk R <;> rw [hco] at cC hleft <;> simp only [Bool.not_true, Bool.not_false, if_true, Bool.false_eq_true, if_false] at hleft <;> by_cases hRe : R = 65533
        · subst hRe
          have hK1 : ((K : Int) == 1) = false := by rw [beq_eq_false_iff_ne]; omega
          have Hleft := Lib.hid hleft
          clear hleft hR hK h1 hco
          go_wp2_with (go_at_call 164; refine cC.mono ?_; rintro e W2 ⟨rfl, hb2⟩)
          go_ret2
          exact ⟨⟨pos, by rw [← Hleft.out]; rfl⟩, hbW.trans (hb2.mono hbW.size)⟩
        · have hR1 : ((R : Int) == 65533) = false := by rw [beq_eq_false_iff_ne]; omega
          have Hleft := Lib.hid hleft
          clear hleft hR hK h1 hco hRe
          go_wp2_with (go_at_call 164; refine cC.mono ?_; rintro e W2 ⟨rfl, hb2⟩)
          go_ret2
          exact ⟨⟨pos, by rw [← Hleft.out]; rfl⟩, hbW.trans (hb2.mono hbW.size)⟩
        · subst hRe
          have hK1 : ((K : Int) == 1) = false := by rw [beq_eq_false_iff_ne]; omega
          have Hleft := Lib.hid hleft
          clear hleft hR hK h1 hco
          go_wp2_with (go_at_call 164; refine cC.mono ?_; rintro e W2 ⟨rfl, hb2⟩)
          go_roundg g'
          case measure => omega
          case rel => exact ⟨pos + K, by go_num, by omega, hbW.trans (hb2.mono hbW.size), Hleft.out, by omega⟩
        · have hR1 : ((R : Int) == 65533) = false := by rw [beq_eq_false_iff_ne]; omega
          have Hleft := Lib.hid hleft
          clear hleft hR hK h1 hco hRe
          go_wp2_with (go_at_call 164; refine cC.mono ?_; rintro e W2 ⟨rfl, hb2⟩)
          go_roundg g'
          case measure => omega
          case rel => exact ⟨pos + K, by go_num, by omega, hbW.trans (hb2.mono hbW.size), Hleft.out, by omega⟩
    · have hpz : ¬ ((pos : Int) < (s.size : Int)) := by omega
      have hv : validT s = true := by
        rw [← hleft]
        cases gk with
        | zero => rfl
        | succ g => simp only [validFrom, hps, if_false]
      go_wp2_with fail
      go_ret2
      exact ⟨⟨0, by first | rfl | (rw [hv]; rfl)⟩, hbw⟩
end Go.Proofs.YtkeibmkcgnppeaaGreatDoor
namespace Go.Proofs.YtkeibmkcgnppeaaGreatDoor
open Go Go.RowKit
set_option maxRecDepth 100000
attribute [local go_sem ↓] Go.wp_at_zero Go.wp_at_succ
theorem bad_call {W : World} (hg : Ck.Consts W) (R K : Nat) (w : World) (hw : Ck.Later W w) :
    Calls Tryz.prog 145 #[.int .i32 (R : Int), .int .i64 (K : Int)] w fun e w' => e = .returned (.bool (badRune R K)) ∧ Below w.heap.size w w' := by
  have cC := (Ck.char_both hg (R : Int) w hw).1
  clear hg hw
  go_enter Tryz.func145, Tryz.ntmps145
  by_cases h1 : R = 65533 ∧ K = 1
  · obtain ⟨rfl, rfl⟩ := h1
    go_wp2_with fail
    go_ret
    exact ⟨rfl, Below.refl _ _⟩
  · have hbr : badRune R K = !Ck.charOk R := by
      have : (decide (R = 65533) && decide (K = 1)) = false := by
        rw [Bool.eq_false_iff]
        simpa using h1
      simp only [badRune, this, Bool.false_or]
    rw [hbr]
    by_cases hRe : R = 65533
    · subst hRe
      have hK1 : ((K : Int) == 1) = false := by rw [beq_eq_false_iff_ne]; omega
      clear hbr h1
      generalize Ck.charOk ((65533 : Nat) : Int) = q at cC ⊢
      cases q
      all_goals (
        go_wp2_with (go_at_call 187; refine cC.mono ?_; rintro e W2 ⟨rfl, hb2⟩)
        go_ret
        exact ⟨rfl, hb2⟩)
    · have hR1 : ((R : Int) == 65533) = false := by rw [beq_eq_false_iff_ne]; omega
      clear hbr h1 hRe
      generalize Ck.charOk (R : Int) = q at cC ⊢
      cases q
      all_goals (
        go_wp2_with (go_at_call 187; refine cC.mono ?_; rintro e W2 ⟨rfl, hb2⟩)
        go_ret
        exact ⟨rfl, hb2⟩)
theorem iter_below {B k : Nat} {w w' : World} {s : ByteArray} {p : Nat} (h : Below B w w') (hk : B ≤ k) : Below B w (w'.iterAt k s p) := by
  refine ⟨h.os, h.tape, h.output, ?_, fun j hj => ?_⟩
  · simpa [World.iterAt] using h.size
  · have : k ≠ j := by omega
    simpa [World.iterAt, this] using h.block j hj
set_option maxHeartbeats 4000000 in
theorem chars_valid {W : World} (hg : Ck.Consts W) (hT : Ck.Tabs W) (s : ByteArray) (hs : s.size ≤ 9223372036854775807) (w : World) (hw : Ck.Later W w) :
    Calls Tryz.prog 101 #[.string s] w fun e w' => (∃ i : Int, e = .returned (.tuple #[.int .i64 i, .bool (validT s)])) ∧ Below w.heap.size w w' := by
  have Hw := Lib.hid hw
  have HT := Lib.hid hT
  have Hg := Lib.hid hg
  clear hw hT hg
  go_enter Tryz.func101, Tryz.ntmps101
  go_wp2
  go_loopw [] (fun wx => ∃ pos gf : Nat, wx.heap[w.heap.size]? = some (.stringIter s pos) ∧ pos ≤ s.size ∧ Below w.heap.size w wx ∧ validFrom s gf pos = validT s ∧ s.size ≤ pos + gf) (fun w' => s.size - w'.iterPos w.heap.size)
  case atStart => exact ⟨0, s.size, heap_alloc_new _ _, Nat.zero_le _, (Below.refl _ _).alloc (Nat.le_refl _) _, rfl, by omega⟩
  case round =>
    obtain ⟨pos, gk, hk, hpos, hbw, hleft, hfu⟩ := hrel
    by_cases hps : pos < s.size
    · obtain ⟨g', rfl⟩ : ∃ g', gk = g' + 1 := ⟨gk - 1, by omega⟩
      have hnx : ∀ ty, (Instr.next (.pointer (some ⟨w.heap.size, 0, none⟩)) true ty).run Tryz.prog wr = _ := fun ty => Lib.run_next_any_at wr w.heap.size s pos ty hk hps
      have hpz : (pos : Int) < (s.size : Int) := by omega
      have hit := Lib.iterAt_heap wr w.heap.size s pos (pos + (Utf8.decode s pos).2) hk
      have hbi : Below w.heap.size w (wr.iterAt w.heap.size s (pos + (Utf8.decode s pos).2)) := iter_below hbw (Nat.le_refl _)
      have hl : Ck.Later W (wr.iterAt w.heap.size s (pos + (Utf8.decode s pos).2)) := ⟨Nat.le_trans Hw.out.1 hbi.size, fun k hk => (hbi.block k (Nat.lt_of_lt_of_le hk Hw.out.1)).trans (Hw.out.2 k hk)⟩
      have cD := Tryz.utf8_DecodeRuneInString (s.extract pos s.size) _ (HT.out.of_heap hl.2)
      have hk2 := Lib.decodeGo_le_size (s.extract pos s.size)
      rw [Lib.tail_size] at hk2
      rw [decode_tail s pos hps] at cD hk2
      have hwd := Lib.width_pos s pos
      obtain ⟨R, hR⟩ : ∃ R, (Utf8.decode s pos).1 = R := ⟨_, rfl⟩
      obtain ⟨K, hK⟩ : ∃ K, (Utf8.decode s pos).2 = K := ⟨_, rfl⟩
      simp only [validFrom, hps, if_true, hR, hK] at hleft
      simp only [hR, hK] at cD hnx hit hbi hl hk2 hwd
      generalize wr.iterAt w.heap.size s (pos + K) = wi at cD hnx hit hbi hl
      have Hl := Lib.hid hl
      have Hit := Lib.hid hit
      have Hleft := Lib.hid hleft
      clear hl hleft hR hK hit
      have hq0 : (0 : Int) ≤ (pos : Int) := by omega
      have hq1 : (pos : Int) ≤ (s.size : Int) := by omega
      have lz := lt_of_some Hit.out
      go_wp2_with (first
        | (go_at_call 118; refine cD.mono ?_; rintro e W1 ⟨rfl, hb1⟩; have hbW : Below w.heap.size w W1 := hbi.trans (hb1.mono hbi.size); have cB := bad_call Hg.out R K W1 ⟨Nat.le_trans Hl.out.1 hb1.size, fun k hk => (hb1.block k (Nat.lt_of_lt_of_le hk Hl.out.1)).trans (Hl.out.2 k hk)⟩; generalize hbd : badRune R K = bd at cB; cases bd)
        | (go_at_call 145; refine cB.mono ?_; rintro e W2 ⟨rfl, hb2⟩))
      · have hv : validFrom s g' (pos + K) = validT s := by
          have := Hleft.out
          rw [hbd] at this
          simpa using this
        have hb3 : Below wi.heap.size wi W2 := hb1.trans (hb2.mono hb1.size)
        have hit2 := (hb3.block w.heap.size lz).trans Hit.out
        go_roundw
        case rel => exact ⟨pos + K, g', hit2, by omega, hbi.trans (hb3.mono hbi.size), hv, by omega⟩
        case measure =>
          simp only [World.iterPos, hit2, hk]
          omega
      · have hv : validT s = false := by
          have := Hleft.out
          rw [hbd] at this
          simpa using this.symm
        go_ret2
        exact ⟨⟨pos, by first | rfl | (rw [hv]; rfl)⟩, hbW.trans (hb2.mono hbW.size)⟩
    · have hv : validT s = true := by
        rw [← hleft]
        cases gk with
        | zero => rfl
        | succ g => simp only [validFrom, hps, if_false]
      have hnx : ∀ ty, (Instr.next (.pointer (some ⟨w.heap.size, 0, none⟩)) true ty).run Tryz.prog wr = _ := fun ty => Lib.run_next_end_at wr w.heap.size s pos ty hk hps
      go_wp2_with fail
      go_ret2
      exact ⟨⟨0, by first | rfl | (rw [hv]; rfl)⟩, hbw⟩
end Go.Proofs.YtkeibmkcgnppeaaGreatDoor
namespace Go.Proofs.YtkeibmkcgnppeaaGreatDoor
open Go Go.RowKit
set_option maxRecDepth 100000
attribute [local go_sem ↓] Go.wp_at_zero Go.wp_at_succ
theorem valid95 {W : World} (hg : Ck.Consts W) (hT : Ck.Tabs W) (s : ByteArray) (hs : s.size ≤ 9223372036854775807) (w : World) (hw : Ck.Later W w) :
    Calls Tryz.prog 95 #[.string s] w fun e w' => e = .returned (.bool (validT s)) ∧ Below w.heap.size w w' := by
  have c := chars_valid hg hT s hs w hw
  clear hg hT hw
  go_enter Tryz.func95, Tryz.ntmps95
  go_wp2_with (go_at_call 101; refine c.mono ?_; rintro e W1 ⟨⟨i, rfl⟩, hb1⟩)
  go_ret
  exact ⟨rfl, hb1⟩
theorem valid73 {W : World} (hg : Ck.Consts W) (hT : Ck.Tabs W) (s : ByteArray) (hs : s.size ≤ 9223372036854775807) (w : World) (hw : Ck.Later W w) :
    Calls Tryz.prog 73 #[.string s] w fun e w' => e = .returned (.bool (validT s)) ∧ Below w.heap.size w w' := by
  have c := ref_valid hg hT s hs w hw
  clear hg hT hw
  go_enter Tryz.func73, Tryz.ntmps73
  go_wp2_with (go_at_call 121; refine c.mono ?_; rintro e W1 ⟨⟨i, rfl⟩, hb1⟩)
  go_ret
  exact ⟨rfl, hb1⟩
def badText (s : ByteArray) : Bool := (decide (s.size = 0) || decide (255 < s.size)) || !validT s
theorem may1 {W : World} (hg : Ck.Consts W) (hT : Ck.Tabs W) (s : ByteArray) (hs : s.size ≤ 9223372036854775807) (w : World) (hw : Ck.Later W w) :
    Calls Tryz.prog 149 #[.string s] w fun e w' => e = .returned (.bool (badText s)) ∧ Below w.heap.size w w' := by
  have c := valid95 hg hT s hs w hw
  clear hg hT hw
  have hss : s.toList.isEmpty = decide (s.size = 0) := by
    rw [Bool.eq_iff_iff, decide_eq_true_eq, ByteArray.toList_eq, List.isEmpty_iff_length_eq_zero]
    exact Iff.rfl
  go_enter Tryz.func149, Tryz.ntmps149
  by_cases h0 : s.size = 0
  · have h1 : s.toList.isEmpty = true := by rw [hss]; simpa using h0
    have h2 : badText s = true := by simp [badText, h0]
    rw [h2]
    clear hss h2
    go_wp2_with fail
    go_ret
    exact ⟨rfl, Below.refl _ _⟩
  · have h1 : s.toList.isEmpty = false := by rw [hss]; simpa using h0
    have h2 : badText s = (decide (255 < s.size) || !validT s) := by simp [badText, h0]
    rw [h2]
    by_cases h3 : 255 < s.size
    · have h4 : (255 : Int) < (s.size : Int) := by omega
      have h5 : decide (255 < s.size) = true := by simpa using h3
      rw [h5]
      clear hss h2
      go_wp2_with fail
      go_ret
      exact ⟨rfl, Below.refl _ _⟩
    · have h4 : ¬ (255 : Int) < (s.size : Int) := by omega
      have h5 : decide (255 < s.size) = false := by simpa using h3
      rw [h5]
      clear hss h2
      generalize validT s = q at c ⊢
      cases q
      all_goals (
        go_wp2_with (go_at_call 95; refine c.mono ?_; rintro e W2 ⟨rfl, hb2⟩)
        go_ret
        exact ⟨rfl, hb2⟩)
end Go.Proofs.YtkeibmkcgnppeaaGreatDoor
namespace Go.Proofs.YtkeibmkcgnppeaaGreatDoor
open Go Go.RowKit
set_option maxRecDepth 100000
attribute [local go_sem ↓] Go.wp_at_zero Go.wp_at_succ
structure TextsAt (W : World) (a : Option Addr) (n : Nat) (tx : Nat → ByteArray) : Prop where
  el : ∀ j, j < n → ∃ b off, a = some ⟨b, off, none⟩ ∧ b < W.heap.size ∧ W.cell? ⟨b, off + j, none⟩ = some (.string (tx j))
  sz : ∀ j, j < n → (tx j).size ≤ 9223372036854775807
def anyBad (tx : Nat → ByteArray) : Nat → Bool
  | 0 => false
  | n + 1 => anyBad tx n || badText (tx n)
theorem anyBad_of {tx : Nat → ByteArray} {j : Nat} (h : badText (tx j) = true) : ∀ {n : Nat}, j < n → anyBad tx n = true
  | 0, hj => absurd hj (Nat.not_lt_zero _)
  | n + 1, hj => by
    simp only [anyBad, Bool.or_eq_true]
    rcases Nat.lt_or_ge j n with h1 | h1
    · exact .inl (anyBad_of h h1)
    · obtain rfl : j = n := by omega
      exact .inr h
theorem index98 {W : World} (hg : Ck.Consts W) (hT : Ck.Tabs W) {a : Option Addr} {n c : Nat} {tx : Nat → ByteArray} (hx : TextsAt W a n tx) (hn : n ≤ 64) (w : World) (hw : Ck.Later W w) :
    Calls Tryz.prog 98 #[.slice a n c, .func (.func 149) #[] #[]] w fun e w' => (∃ i : Int, e = .returned (.int .i64 i) ∧ decide (0 ≤ i) = anyBad tx n) ∧ Below w.heap.size w w' := by
  have Hw := Lib.hid hw
  have HT := Lib.hid hT
  have Hg := Lib.hid hg
  have Hx := Lib.hid hx
  clear hw hT hg hx
  go_enter Tryz.func98, Tryz.ntmps98
  go_wp2
  go_loopw [8] (fun i wr => ∃ j : Nat, j ≤ n ∧ i = .int .i64 j ∧ anyBad tx j = false ∧ Below w.heap.size w wr) (fun i _ => n - (intOf i).toNat)
  case atStart => exact ⟨0, Nat.zero_le _, rfl, rfl, Below.refl _ _⟩
  case round =>
    obtain ⟨j, hj, rfl, hb, hbw⟩ := hrel
    rcases Nat.lt_or_ge j n with hlt | hge
    · have hl : Ck.Later W wr := ⟨Nat.le_trans Hw.out.1 hbw.size, fun k hk => (hbw.block k (Nat.lt_of_lt_of_le hk Hw.out.1)).trans (Hw.out.2 k hk)⟩
      obtain ⟨b, off, rfl, hlo, hcell⟩ := Hx.out.el j hlt
      have hc2 : wr.cell? ⟨b, off + j, none⟩ = some (.string (tx j)) := by
        simp only [World.cell?] at hcell ⊢
        rw [hl.2 b hlo]
        exact hcell
      have cM := may1 Hg.out HT.out (tx j) (Hx.out.sz j hlt) wr hl
      have hjz : (j : Int) < (n : Int) := by omega
      have hj0 : (0 : Int) ≤ (j : Int) := by omega
      generalize hq : badText (tx j) = q at cM
      clear hcell hl
      have eg : ∀ args w, (callFunc 149 args).run Tryz.prog w = .ok (.enter 149 args) w := Tryz.call149
      cases q
      · go_wp2_with (go_at_fn 149; refine cM.mono ?_; rintro e W2 ⟨rfl, hb2⟩)
        exact ⟨⟨j + 1, by omega, by go_num, by simp only [anyBad, hb, hq, Bool.or_self], hbw.trans (hb2.mono hbw.size)⟩, round_measure hlt⟩
      · go_wp2_with (go_at_fn 149; refine cM.mono ?_; rintro e W2 ⟨rfl, hb2⟩)
        go_ret
        exact ⟨⟨j, rfl, by rw [anyBad_of hq hlt]; simp⟩, hbw.trans (hb2.mono hbw.size)⟩
    · obtain rfl : j = n := by omega
      have hjz : ¬ (j : Int) < (j : Int) := by omega
      go_wp2_with fail
      go_ret
      exact ⟨⟨-1, rfl, by first | omega | (rw [hb]; decide)⟩, hbw⟩
end Go.Proofs.YtkeibmkcgnppeaaGreatDoor
namespace Go.Proofs.YtkeibmkcgnppeaaGreatDoor
open Go Go.RowKit
set_option maxRecDepth 100000
attribute [local go_sem ↓] Go.wp_at_zero Go.wp_at_succ
theorem contains150 {W : World} (hg : Ck.Consts W) (hT : Ck.Tabs W) {a : Option Addr} {n c : Nat} {tx : Nat → ByteArray} (hx : TextsAt W a n tx) (hn : n ≤ 64) (w : World) (hw : Ck.Later W w) :
    Calls Tryz.prog 150 #[.slice a n c, .func (.func 149) #[] #[]] w fun e w' => e = .returned (.bool (anyBad tx n)) ∧ Below w.heap.size w w' := by
  have cI := index98 (c := c) hg hT hx hn w hw
  clear hg hT hx hw
  go_enter Tryz.func150, Tryz.ntmps150
  go_wp2_with (go_at_call 98; refine cI.mono ?_; rintro e W2 ⟨⟨i, rfl, hi⟩, hb2⟩)
  go_ret
  refine ⟨?_, hb2⟩
  rw [← hi]
  rfl
end Go.Proofs.YtkeibmkcgnppeaaGreatDoor
namespace Go.Proofs.YtkeibmkcgnppeaaGreatDoor
open Go Go.RowKit
set_option maxRecDepth 100000
attribute [local go_sem ↓] Go.wp_at_zero Go.wp_at_succ
theorem finite148 {v : Nat} (h : FloatKind.f64.format.order v v = some .eq) (h2 : FloatKind.f64.format.order (absB v) 9218868437227405311 ≠ some .gt) (h0 : (FloatKind.f64.format.order v 0 != some .eq) = true) (w : World) :
    Calls Tryz.prog 148 #[.float .f64 v] w fun e w' => e = .returned (.bool true) ∧ w' = w := by
  have hr : ∀ w, (binOp .neq 22 (.float .f64 v) (.float .f64 0)).run Tryz.prog w = .ok (.bool true) w := fun w => by
    rw [run_fneq, h0]
  go_enter Tryz.func148, Tryz.ntmps148
  go_wp2_with (first
    | (go_at_call 42; refine (nan_call h _).mono ?_; rintro e w' ⟨rfl, rfl⟩)
    | (go_at_call 43; refine (inf_call h2 _).mono ?_; rintro e w' ⟨rfl, rfl⟩))
  go_ret
  exact ⟨rfl, rfl⟩
theorem finite72 {v : Nat} (h : FloatKind.f64.format.sub v v = some 0) (h0 : (FloatKind.f64.format.order v 0 != some .eq) = true) (w : World) :
    Calls Tryz.prog 72 #[.float .f64 v] w fun e w' => e = .returned (.bool true) ∧ w' = w := by
  have h00 : FloatKind.f64.format.order 0 0 = some .eq := by decide +kernel
  have hs := fun w => run_fsub h w
  have hr2 : ∀ w, (binOp .eql 22 (.float .f64 0) (.float .f64 0)).run Tryz.prog w = .ok (.bool true) w := fun w => by
    rw [run_feql, h00]; rfl
  have hr : ∀ w, (binOp .neq 22 (.float .f64 v) (.float .f64 0)).run Tryz.prog w = .ok (.bool true) w := fun w => by
    rw [run_fneq, h0]
  go_enter Tryz.func72, Tryz.ntmps72
  go_wp2_with fail
  go_ret
  exact ⟨rfl, rfl⟩
theorem sign44 {v : Nat} (b : Bool) (hv : (v = 0 ∧ b = false) ∨ (v = 9223372036854775808 ∧ b = true)) (w : World) : Calls Tryz.prog 44 #[.float .f64 v] w fun e w' => e = .returned (.bool b) ∧ w' = w := by
  rcases hv with ⟨rfl, rfl⟩ | ⟨rfl, rfl⟩
  · have h1 := fun w => run_bits87 0 w
    go_enter Tryz.func44, Tryz.ntmps44
    go_wp2_with fail
    go_ret
    exact ⟨rfl, rfl⟩
  · have h1 := fun w => run_bits87 9223372036854775808 w
    go_enter Tryz.func44, Tryz.ntmps44
    go_wp2_with fail
    go_ret
    refine ⟨?_, rfl⟩
    show Ending.returned (.bool (decide (wrap64 9223372036854775808 < 0))) = _
    rw [show decide (wrap64 9223372036854775808 < 0) = true by decide +kernel]
theorem nought148 {v : Nat} (b : Bool) (hv : (v = 0 ∧ b = false) ∨ (v = 9223372036854775808 ∧ b = true)) (w : World) : Calls Tryz.prog 148 #[.float .f64 v] w fun e w' => e = .returned (.bool (!b)) ∧ w' = w := by
  have h : FloatKind.f64.format.order v v = some .eq := by rcases hv with ⟨rfl, rfl⟩ | ⟨rfl, rfl⟩ <;> decide +kernel
  have h2 : FloatKind.f64.format.order (absB v) 9218868437227405311 ≠ some .gt := by rcases hv with ⟨rfl, rfl⟩ | ⟨rfl, rfl⟩ <;> decide +kernel
  have h0 : (FloatKind.f64.format.order v 0 != some .eq) = false := by rcases hv with ⟨rfl, rfl⟩ | ⟨rfl, rfl⟩ <;> decide +kernel
  have cS := fun w => sign44 b hv w
  have hr : ∀ w, (binOp .neq 22 (.float .f64 v) (.float .f64 0)).run Tryz.prog w = .ok (.bool false) w := fun w => by
    rw [run_fneq, h0]
  clear hv
  cases b
  all_goals (
    go_enter Tryz.func148, Tryz.ntmps148
    go_wp2_with (first
      | (go_at_call 42; refine (nan_call h _).mono ?_; rintro e w' ⟨rfl, rfl⟩)
      | (go_at_call 43; refine (inf_call h2 _).mono ?_; rintro e w' ⟨rfl, rfl⟩)
      | (go_at_call 44; refine (cS _).mono ?_; rintro e w' ⟨rfl, rfl⟩))
    go_ret
    exact ⟨rfl, rfl⟩)
theorem run_fquo {a b c : Nat} (h : FloatKind.f64.format.div a b = some c) (w : World) : (binOp .quo 22 (.float .f64 a) (.float .f64 b)).run Tryz.prog w = .ok (.float .f64 c) w := by
  simp [binOp, Op.floatCmp, Op.floatArith, h]
theorem nought72 {v : Nat} (b : Bool) (hv : (v = 0 ∧ b = false) ∨ (v = 9223372036854775808 ∧ b = true)) (w : World) : Calls Tryz.prog 72 #[.float .f64 v] w fun e w' => e = .returned (.bool (!b)) ∧ w' = w := by
  have h : FloatKind.f64.format.sub v v = some 0 := by rcases hv with ⟨rfl, rfl⟩ | ⟨rfl, rfl⟩ <;> decide +kernel
  have h0 : (FloatKind.f64.format.order v 0 != some .eq) = false := by rcases hv with ⟨rfl, rfl⟩ | ⟨rfl, rfl⟩ <;> decide +kernel
  have h1 : ∃ q, FloatKind.f64.format.div 4607182418800017408 v = some q ∧ (FloatKind.f64.format.order q 0 == some .gt) = !b := by
    rcases hv with ⟨rfl, rfl⟩ | ⟨rfl, rfl⟩
    · exact ⟨9218868437227405312, by decide +kernel, by decide +kernel⟩
    · exact ⟨18442240474082181120, by decide +kernel, by decide +kernel⟩
  obtain ⟨q, h1, h3⟩ := h1
  have h00 : FloatKind.f64.format.order 0 0 = some .eq := by decide +kernel
  have hs := fun w => run_fsub h w
  have hd := fun w => run_fquo h1 w
  have hr2 : ∀ w, (binOp .eql 22 (.float .f64 0) (.float .f64 0)).run Tryz.prog w = .ok (.bool true) w := fun w => by
    rw [run_feql, h00]; rfl
  have hr : ∀ w, (binOp .neq 22 (.float .f64 v) (.float .f64 0)).run Tryz.prog w = .ok (.bool false) w := fun w => by
    rw [run_fneq, h0]
  have hg : ∀ w, (binOp .gtr 22 (.float .f64 q) (.float .f64 0)).run Tryz.prog w = .ok (.bool (!b)) w := fun w => by
    rw [run_fgtr, h3]
  clear hv
  go_enter Tryz.func72, Tryz.ntmps72
  go_wp2_with fail
  go_ret
  exact ⟨rfl, rfl⟩
theorem nan148 {v : Nat} (h : (FloatKind.f64.format.order v v != some .eq) = true) (w : World) : Calls Tryz.prog 148 #[.float .f64 v] w fun e w' => e = .returned (.bool false) ∧ w' = w := by
  have hr : ∀ w, (binOp .neq 22 (.float .f64 v) (.float .f64 v)).run Tryz.prog w = .ok (.bool true) w := fun w => by
    rw [run_fneq, h]
  have cN : ∀ w, Calls Tryz.prog 42 #[.float .f64 v] w fun e w' => e = .returned (.bool true) ∧ w' = w := by
    intro w
    go_enter Tryz.func42, Tryz.ntmps42
    go_wp2_with fail
    go_ret
    exact ⟨rfl, rfl⟩
  go_enter Tryz.func148, Tryz.ntmps148
  go_wp2_with (go_at_call 42; refine (cN _).mono ?_; rintro e w' ⟨rfl, rfl⟩)
  go_ret
  exact ⟨rfl, rfl⟩
theorem inf148 {v : Nat} (h : FloatKind.f64.format.order v v = some .eq) (h2 : FloatKind.f64.format.order (absB v) 9218868437227405311 = some .gt) (w : World) : Calls Tryz.prog 148 #[.float .f64 v] w fun e w' => e = .returned (.bool false) ∧ w' = w := by
  have hr : ∀ w, (binOp .gtr 22 (.float .f64 (absB v)) (.float .f64 9218868437227405311)).run Tryz.prog w = .ok (.bool true) w := fun w => by
    rw [run_fgtr, h2]
    rfl
  have cI : ∀ w, Calls Tryz.prog 43 #[.float .f64 v, .int .i64 0] w fun e w' => e = .returned (.bool true) ∧ w' = w := by
    intro w
    go_enter Tryz.func43, Tryz.ntmps43
    go_wp2_with fail
    refine (abs_call v _).mono ?_
    rintro e w' ⟨rfl, rfl⟩
    go_wp2_with fail
    go_ret
    exact ⟨rfl, rfl⟩
  go_enter Tryz.func148, Tryz.ntmps148
  go_wp2_with (first
    | (go_at_call 42; refine (nan_call h _).mono ?_; rintro e w' ⟨rfl, rfl⟩)
    | (go_at_call 43; refine (cI _).mono ?_; rintro e w' ⟨rfl, rfl⟩))
  go_ret
  exact ⟨rfl, rfl⟩
end Go.Proofs.YtkeibmkcgnppeaaGreatDoor
namespace Go.Proofs.YtkeibmkcgnppeaaGreatDoor
open Go Go.RowKit
set_option maxRecDepth 100000
attribute [local go_sem ↓] Go.wp_at_zero Go.wp_at_succ
theorem run_fsub_nan {a b : Nat} (hs : FloatKind.f64.format.sub a b = none) (w : World) :
    ∃ c : Nat, (binOp .sub 22 (.float .f64 a) (.float .f64 b)).run Tryz.prog w = .ok (.float .f64 c) { w with drawn := w.drawn + 1 } ∧ ∀ y, FloatKind.f64.format.order c y = none := by
  refine ⟨(Question.nanBits .f64 a b).cut (w.tape w.drawn (.nanBits .f64 a b)), ?_, fun y => Go.Proofs.YtkeibmkcgnppeaaGreatDoor.Rx.order_nan ?_ y⟩
  · simp [Go.binOp, Op.floatCmp, Op.floatArith, hs, Question.forced]
  · simp only [Question.cut]
    generalize w.tape w.drawn (Question.nanBits FloatKind.f64 a b) = t
    have h1 : t / 2 % (2 ^ 52 - 1) < 2 ^ 52 - 1 := Nat.mod_lt _ (by decide)
    have h2 : t % 2 < 2 := Nat.mod_lt _ (by decide)
    generalize t / 2 % (2 ^ 52 - 1) = u at h1 ⊢
    generalize t % 2 = v at h2 ⊢
    have e : v * 2 ^ 63 + 9218868437227405312 + 1 + u = v * 9223372036854775808 + 9218868437227405312 + 1 + u := rfl
    have h1 : u < 4503599627370495 := h1
    rw [e]
    omega
theorem nan72 {v : Nat} (hs : FloatKind.f64.format.sub v v = none) (w : World) : Calls Tryz.prog 72 #[.float .f64 v] w fun e w' => e = .returned (.bool false) ∧ Below w.heap.size w w' := by
  obtain ⟨c, hc, ho⟩ := run_fsub_nan hs w
  have hb : Below w.heap.size w { w with drawn := w.drawn + 1 } := ⟨rfl, rfl, rfl, Nat.le_refl _, fun _ _ => rfl⟩
  generalize ({ w with drawn := w.drawn + 1 } : World) = w1 at hc hb
  have hr2 : ∀ w, (binOp .eql 22 (.float .f64 c) (.float .f64 0)).run Tryz.prog w = .ok (.bool false) w := fun w => by
    rw [run_feql, ho]; rfl
  go_enter Tryz.func72, Tryz.ntmps72
  go_wp2_with fail
  go_ret
  exact ⟨rfl, hb⟩
theorem sub_nan {v : Nat} (h : 9218868437227405312 < absB v) : FloatKind.f64.format.sub v v = none := by
  have hr := Go.Proofs.YtkeibmkcgnppeaaGreatDoor.Rx.read64 v
  unfold absB at h
  rw [if_neg (by omega), if_neg (by omega), if_neg (by omega)] at hr
  show ((Ieee.double.read v).sum (Ieee.double.read v).opposite).map Ieee.double.write = none
  rw [hr]
  rfl
theorem finite_both {v : Nat} (h64 : v < 18446744073709551616) : ∃ b : Bool, (b = true → absB v < 9218868437227405312) ∧
    ∀ w, Calls Tryz.prog 148 #[.float .f64 v] w (fun e w' => e = .returned (.bool b) ∧ Below w.heap.size w w') ∧ Calls Tryz.prog 72 #[.float .f64 v] w fun e w' => e = .returned (.bool b) ∧ Below w.heap.size w w' := by
  have st : ∀ {w : World} {b : Bool} {e : Ending} {w' : World}, e = .returned (.bool b) ∧ w' = w → e = .returned (.bool b) ∧ Below w.heap.size w w' := by
    rintro w b e w' ⟨h, rfl⟩
    exact ⟨h, Below.refl _ _⟩
  rcases Nat.lt_or_ge (absB v) 9218868437227405312 with hlt | hge
  · by_cases h0 : absB v = 0
    · have hz : v = 0 ∨ v = 9223372036854775808 := by unfold absB at h0; omega
      rcases hz with rfl | rfl
      · exact ⟨true, fun _ => hlt, fun w => ⟨(nought148 false (.inl ⟨rfl, rfl⟩) w).mono fun _ _ h => st h, (nought72 false (.inl ⟨rfl, rfl⟩) w).mono fun _ _ h => st h⟩⟩
      · exact ⟨false, fun h => (Bool.noConfusion h), fun w => ⟨(nought148 true (.inr ⟨rfl, rfl⟩) w).mono fun _ _ h => st h, (nought72 true (.inr ⟨rfl, rfl⟩) w).mono fun _ _ h => st h⟩⟩
    · have F := fin_of (v := v) (by omega) hlt
      have hn : (FloatKind.f64.format.order v 0 != some .eq) = true := by simpa using F.nought
      exact ⟨true, fun _ => hlt, fun w => ⟨(finite148 F.self F.abs hn w).mono fun _ _ h => st h, (finite72 F.sub hn w).mono fun _ _ h => st h⟩⟩
  · by_cases hi : absB v = 9218868437227405312
    · have hz : v = 9218868437227405312 ∨ v = 18442240474082181120 := by unfold absB at hi; omega
      refine ⟨false, fun h => (Bool.noConfusion h), fun w => ?_⟩
      rcases hz with rfl | rfl
      · exact ⟨(inf148 (by decide +kernel) (by decide +kernel) w).mono fun _ _ h => st h, nan72 (by decide +kernel) w⟩
      · exact ⟨(inf148 (by decide +kernel) (by decide +kernel) w).mono fun _ _ h => st h, nan72 (by decide +kernel) w⟩
    · have hg : 9218868437227405312 < absB v := by omega
      refine ⟨false, fun h => (Bool.noConfusion h), fun w => ⟨(nan148 (by rw [Go.Proofs.YtkeibmkcgnppeaaGreatDoor.Rx.order_nan (by unfold absB at hg; exact hg)]; rfl) w).mono fun _ _ h => st h, nan72 (sub_nan hg) w⟩⟩
end Go.Proofs.YtkeibmkcgnppeaaGreatDoor
namespace Go.Proofs.YtkeibmkcgnppeaaGreatDoor
open Go Go.RowKit
set_option maxRecDepth 100000
attribute [local go_sem ↓] Go.wp_at_zero Go.wp_at_succ
theorem may_other {k : Int} (h0 : (k == 0) = false) (h1 : (k == 1) = false) (h2 : (k == 2) = false) (h3 : (k == 3) = false) (h4 : (k == 4) = false) (lo hi : Nat) (a : Option Addr) (n c : Nat) (w : World) :
    Calls Tryz.prog 107 #[.agg #[.int .i64 k, .float .f64 lo, .float .f64 hi, .slice a n c]] w (fun e w' => e = .returned (.bool false) ∧ Below w.heap.size w w') ∧
    Calls Tryz.prog 34 #[.agg #[.int .i64 k, .float .f64 lo, .float .f64 hi, .slice a n c]] w (fun e w' => e = .returned (.bool false) ∧ Below w.heap.size w w') := by
  constructor
  · go_enter Tryz.func107, Tryz.ntmps107
    go_wp2_with fail
    go_ret
    exact ⟨rfl, (Below.refl _ _).alloc (Nat.le_refl _) _⟩
  · go_enter Tryz.func34, Tryz.ntmps34
    go_wp2_with fail
    go_ret
    exact ⟨rfl, (Below.refl _ _).alloc (Nat.le_refl _) _⟩
def FinBoth (v : Nat) (b : Bool) : Prop :=
  ∀ w, Calls Tryz.prog 148 #[.float .f64 v] w (fun e w' => e = .returned (.bool b) ∧ Below w.heap.size w w') ∧ Calls Tryz.prog 72 #[.float .f64 v] w fun e w' => e = .returned (.bool b) ∧ Below w.heap.size w w'
end Go.Proofs.YtkeibmkcgnppeaaGreatDoor

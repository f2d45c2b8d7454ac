/- Both makers of a condition on a list. -/
import Derived.Test.YtkeibmkcgnppeaaGreatDoorZFd
import Derived.Lib.Replace
import Derived.Lib.CountLaws
import Derived.Lib.Join
import Derived.Test.YtkeibmkcgnppeaaGreatDoorZHc
namespace Go.Proofs.YtkeibmkcgnppeaaGreatDoor
open Go
set_option maxRecDepth 100000
def quoteB : List UInt8 → List UInt8
  | [] => []
  | b :: t => (if b = 34 then [34, 34] else [b]) ++ quoteB t
theorem quoteB_append : ∀ a b : List UInt8, quoteB (a ++ b) = quoteB a ++ quoteB b
  | [], b => rfl
  | x :: a, b => by simp only [List.cons_append, quoteB, quoteB_append a b, List.append_assoc]
theorem quoteB_len : ∀ a : List UInt8, (quoteB a).length ≤ 2 * a.length
  | [] => Nat.le_refl _
  | x :: a => by
    have := quoteB_len a
    simp only [quoteB, List.length_append, List.length_cons]
    split <;> simp <;> omega
theorem index_cons_ne {b c : UInt8} (h : b ≠ c) (t : List UInt8) : Lib.index (b :: t) [c] = if Lib.index t [c] == -1 then -1 else Lib.index t [c] + 1 := by
  rw [Lib.index_one, Lib.index_one]
  simp only [Lib.indexByte]
  rw [if_neg (by simpa using h)]
theorem index_cons_eq {c : UInt8} (t : List UInt8) : Lib.index (c :: t) [c] = ((0 : Nat) : Int) := by
  rw [Lib.index_one]
  simp [Lib.indexByte]
theorem replaceK_quote : ∀ l : List UInt8, Lib.replaceK [34] [34, 34] (Lib.count l [34]) l = quoteB l
  | [] => by
    have : Lib.index [] [34] = -1 := rfl
    rw [Lib.count_miss this]
    rfl
  | b :: t => by
    have ih := replaceK_quote t
    by_cases h : b = 34
    · subst h
      rw [Lib.count_hit (i := 0) (by simp) (index_cons_eq t)]
      have hd : List.drop (0 + ([34] : List UInt8).length) ((34 : UInt8) :: t) = t := rfl
      rw [hd, Nat.add_comm, Lib.replaceK_hit _ _ _ _ 0 (index_cons_eq t), hd, ih]
      simp [quoteB]
    · have hq : quoteB (b :: t) = b :: quoteB t := by simp [quoteB, h]
      rw [hq, ← ih]
      have hi := index_cons_ne h t
      rcases Lib.index_spec t [34] with ⟨h1, _⟩ | ⟨i, h1, _⟩
      · rw [h1] at hi
        have hi : Lib.index (b :: t) [34] = -1 := hi
        rw [Lib.count_miss hi, Lib.count_miss h1]
        rfl
      · rw [h1] at hi
        have hi : Lib.index (b :: t) [34] = ((i + 1 : Nat) : Int) := by
          rw [hi, if_neg (by rw [beq_iff_eq]; omega)]
          rfl
        rw [Lib.count_hit (by simp) hi, Lib.count_hit (by simp) h1]
        have hd : List.drop (i + 1 + ([34] : List UInt8).length) (b :: t) = t.drop (i + ([34] : List UInt8).length) := rfl
        rw [hd, Nat.add_comm 1, Lib.replaceK_hit _ _ _ _ _ hi, Lib.replaceK_hit _ _ _ _ _ h1, hd]
        simp
theorem replaceAll_quote (l : List UInt8) : Lib.replaceAll l [34] [34, 34] = quoteB l := by
  unfold Lib.replaceAll Lib.replace
  rw [if_neg (by decide)]
  have : Lib.replaceNum l [34] (-1) = Lib.count l [34] := by
    unfold Lib.replaceNum
    rw [if_pos (.inl (by decide))]
  rw [this, replaceK_quote]
theorem count_quote_le : ∀ l : List UInt8, Lib.count l [34] ≤ l.length
  | [] => by
    have : Lib.index [] [34] = -1 := rfl
    rw [Lib.count_miss this]
    exact Nat.zero_le _
  | b :: t => by
    have ih := count_quote_le t
    by_cases h : b = 34
    · subst h
      rw [Lib.count_hit (i := 0) (by simp) (index_cons_eq t)]
      have hd : List.drop (0 + ([34] : List UInt8).length) ((34 : UInt8) :: t) = t := rfl
      rw [hd]
      simp
      omega
    · have hi := index_cons_ne h t
      rcases Lib.index_spec t [34] with ⟨h1, _⟩ | ⟨i, h1, _⟩
      · rw [h1] at hi
        have hi : Lib.index (b :: t) [34] = -1 := hi
        rw [Lib.count_miss hi]
        exact Nat.zero_le _
      · rw [h1] at hi
        have hi : Lib.index (b :: t) [34] = ((i + 1 : Nat) : Int) := by
          rw [hi, if_neg (by rw [beq_iff_eq]; omega)]
          rfl
        rw [Lib.count_hit (by simp) hi]
        rw [Lib.count_hit (by simp) h1] at ih
        have hd : List.drop (i + 1 + ([34] : List UInt8).length) (b :: t) = t.drop (i + ([34] : List UInt8).length) := rfl
        rw [hd]
        have hl : (b :: t).length = t.length + 1 := rfl
        omega
def itemT (s : ByteArray) : List UInt8 := 34 :: (quoteB s.data.toList ++ [34])
def listT (tx : Nat → ByteArray) : Nat → List UInt8
  | 0 => []
  | n + 1 => listT tx n ++ ((if 0 < n then [59] else []) ++ itemT (tx n))
theorem listT_join (tx : Nat → ByteArray) (n : Nat) : Lib.join ((List.range n).map fun j => itemT (tx j)) [59] = listT tx n := by
  induction n with
  | zero => rfl
  | succ n ih =>
    rw [List.range_succ, List.map_append]
    match n, ih with
    | 0, _ => simp [listT, Lib.join_one]
    | n + 1, ih =>
      have hc : ∀ (x : List UInt8) (r : List (List UInt8)) (y : List UInt8), Lib.join (x :: r ++ [y]) [59] = Lib.join (x :: r) [59] ++ (59 :: y) := by
        intro x r y
        rw [List.cons_append, Lib.join_cons, Lib.join_cons]
        simp [Lib.joinTail]
      have hm : ∃ x r, (List.range (n + 1)).map (fun j => itemT (tx j)) = x :: r := by
        rw [List.range_succ_eq_map]
        exact ⟨_, _, rfl⟩
      obtain ⟨x, r, hm⟩ := hm
      rw [hm] at ih ⊢
      rw [List.map_cons, List.map_nil, hc, ih]
      show _ = listT tx (n + 1) ++ ((if 0 < n + 1 then [59] else []) ++ itemT (tx (n + 1)))
      simp
theorem listT_len {tx : Nat → ByteArray} : ∀ {n : Nat}, (∀ j, j < n → (tx j).size ≤ 255) → (listT tx n).length ≤ 513 * n
  | 0, _ => Nat.le_refl _
  | n + 1, h => by
    have ih := listT_len (n := n) fun j hj => h j (by omega)
    have h1 := h n (by omega)
    have h2 := quoteB_len (tx n).data.toList
    have h3 : (tx n).data.toList.length = (tx n).size := rfl
    simp only [listT, itemT, List.length_append, List.length_cons, List.length_nil]
    split <;> simp <;> omega
end Go.Proofs.YtkeibmkcgnppeaaGreatDoor
namespace Go.Proofs.YtkeibmkcgnppeaaGreatDoor
open Go Go.RowKit
set_option maxRecDepth 100000
attribute [local go_sem ↓] Go.wp_at_zero Go.wp_at_succ
def listPre : ByteArray := ⟨#[111, 102, 58, 99, 101, 108, 108, 45, 99, 111, 110, 116, 101, 110, 116, 45, 105, 115, 45, 105, 110, 45, 108, 105, 115, 116, 40]⟩
def listAll (tx : Nat → ByteArray) (n : Nat) : List UInt8 := listPre.data.toList ++ listT tx n ++ [41]
theorem four_at {w : World} {b : Nat} {e : TypeId} {a0 a1 a2 a3 : Value} {r : Nat × Nat} (h : w.heap[b]? = some (.cells #[a0, a1, a2, a3] e r)) :
    w.cell? ⟨b, 0, none⟩ = some a0 ∧ w.cell? ⟨b, 1, none⟩ = some a1 ∧ w.cell? ⟨b, 2, none⟩ = some a2 ∧ w.cell? ⟨b, 3, none⟩ = some a3 := by
  refine ⟨?_, ?_, ?_, ?_⟩ <;> simp [World.cell?, h]
theorem ext_one (s : ByteArray) (k : Nat) (h : k < s.size) : s.extract k (k + 1) = ⟨#[s[k]]⟩ := by
  apply ByteArray.ext
  rw [ByteArray.data_extract]
  apply Array.ext
  · simp; have : s.data.size = s.size := rfl; omega
  · intro i k1 k2
    have hi : i = 0 := by simp at k2; omega
    subst hi
    rw [Array.getElem_extract]
    rfl
theorem take_quote (s : ByteArray) (k : Nat) (h : k < s.size) : quoteB (s.data.toList.take (k + 1)) = quoteB (s.data.toList.take k) ++ (if s[k] = 34 then [34, 34] else [s[k]]) := by
  have hk : k < s.data.toList.length := h
  rw [List.take_add_one, List.getElem?_eq_getElem hk, quoteB_append]
  congr 1
  show (if s.data.toList[k] = 34 then [34, 34] else [s.data.toList[k]]) ++ [] = _
  rw [List.append_nil]
  rfl
theorem data_app (a b : ByteArray) : (a ++ b).data.toList = a.data.toList ++ b.data.toList := by
  rw [ByteArray.data_append, Array.toList_append]
theorem cond12_list {W : World} {H L : Nat → Nat} (hg : Ground W H L) (hT : TabOk H L) {a : Option Addr} {n c : Nat} {tx : Nat → ByteArray} (hx : TextsAt W a n tx) (h64 : n ≤ 64) (hsz : ∀ j, j < n → (tx j).size ≤ 255)
    (hr : Ck.Both W 107 34 #[Ru.ruleV 4 0 0 a n c] true) (w : World) (hw : Later W w) :
    Calls Tryz.prog 12 #[Ru.ruleV 4 0 0 a n c] w fun e w' => e = .returned (.tuple #[.string ⟨(listAll tx n).toArray⟩, .int .i64 0]) ∧ Below w.heap.size w w' := by
  obtain ⟨t0, s0, c0⟩ := Ru.bound_texts hg hT (v := 0) (by decide) (by decide)
  have Hc := Lib.hid c0
  have Hr := Lib.hid hr
  have Hw := Lib.hid hw
  have Hx := Lib.hid hx
  have Hz := Lib.hid hsz
  unfold Ru.ruleV at Hr ⊢
  clear hg hT hr hw hx c0 hsz
  go_enter Tryz.func12, Tryz.ntmps12
  go_upto_region 3 with (go_at_call 34; refine ((Hr.out _ (by repeat first | exact Hw.out | apply Later.alloc)).2.mono ?_); rintro e w1 ⟨rfl, hb1⟩; have g1 := (hb1.block w.heap.size (by simp)).trans (heap_alloc_new w _); have Hb1 := Lib.hid hb1; clear hb1; obtain ⟨k0, k1, k2, k3⟩ := four_at g1)
  go_cut [4] (fun s4 wx => (∃ s, s4 = .string s) ∧ Below w.heap.size w wx ∧ wx.heap[w.heap.size]? = some (.cells #[.int .i64 4, .float .f64 0, .float .f64 0, .slice a n c] 43 (0, 0)))
  case first =>
    have hbw1 : Below w.heap.size w w1 := ((Below.refl _ _).alloc (Nat.le_refl _) _).trans (Hb1.out.mono (by simp))
    have Hl1 := Lib.hid (Hw.out.below hbw1)
    have Hbw1 := Lib.hid hbw1
    have lt1 : w.heap.size < w1.heap.size := lt_of_some g1
    have G1 := Lib.hid g1
    have k1d : w1.drew.cell? ⟨w.heap.size, 1, none⟩ = some (.float .f64 0) := k1
    have k2d : w1.drew.cell? ⟨w.heap.size, 2, none⟩ = some (.float .f64 0) := k2
    have q1 : ¬ 9223372036854775807 < 11 + t0.size := by omega
    have q2 : ¬ 9223372036854775807 < 11 + t0.size + 1 := by omega
    have q3 : ¬ 9223372036854775807 < 11 + t0.size + 1 + t0.size := by omega
    have q4 : ¬ 9223372036854775807 < 11 + t0.size + 1 + t0.size + 1 := by omega
    clear hbw1 g1
    go_region_held3 (fun w' => w'.cell? ⟨w.heap.size, 1, none⟩ = some (.float .f64 0) ∧ w'.cell? ⟨w.heap.size, 2, none⟩ = some (.float .f64 0))
      (refine ⟨?_, ?_⟩ <;> (repeat first | with_reducible exact k1 | with_reducible exact k2 | with_reducible exact k1d | with_reducible exact k2d | rw [drew_cell] | rw [hb6.cell (by simp; omega)] | rw [hb5.cell (by simp; omega)]))
      (first
        | (go_at_call 30; have z5 := hb5; refine ((Hc.out _ (Hl1.out.below B5)).2.mono ?_); rintro e w6 ⟨rfl, hb6⟩; have B6 : Below w5.heap.size w5 w6 := hb6)
        | (go_at_call 30; refine ((Hc.out _ (by repeat first | exact Hl1.out | apply Later.drew)).2.mono ?_); rintro e w5 ⟨rfl, hb5⟩; have B5 : Below w1.heap.size w1 w5 := (by first | exact hb5 | exact below_d hb5); have hs5 : w1.heap.size ≤ w5.heap.size := B5.size))
    all_goals (
      go_wp2_with fail
      go_meet
      exact ⟨⟨_, rfl⟩, Hbw1.out.trans ((B5.trans (B6.mono hs5)).mono (by omega)), (B6.block _ (by omega)).trans ((B5.block _ lt1).trans G1.out)⟩)
  case rest =>
    obtain ⟨⟨s4, rfl⟩, hbx, gx⟩ := hcut
    obtain ⟨m0, m1, m2, m3⟩ := four_at gx
    have ltx : w.heap.size < wc.heap.size := lt_of_some gx
    clear k0 k1 k2 k3
    have Hbx := Lib.hid hbx
    have Gx := Lib.hid gx
    have hlx := Hw.out.below hbx
    have Hlx := Lib.hid hlx
    clear hbx gx hlx
    have hpre : ((⟨#[111, 102, 58, 99, 101, 108, 108, 45, 99, 111, 110, 116, 101, 110, 116, 45, 105, 115, 45, 105, 110, 45, 108, 105, 115, 116, 40]⟩ : ByteArray).data.toList) = listPre.data.toList := rfl
    go_wp2_with fail
    go_loop [5, 6] (fun s5 s6 => ∃ (j : Nat) (S : ByteArray), j ≤ n ∧ s6 = .int .i64 j ∧ s5 = .string S ∧ S.data.toList = listPre.data.toList ++ listT tx j) (fun _ s6 => n - (intOf s6).toNat)
    case atStart => exact ⟨0, _, Nat.zero_le _, rfl, rfl, by simp [listT, listPre]⟩
    case round =>
      obtain ⟨j, S, hj, rfl, rfl, hS⟩ := hrel
      rcases Nat.lt_or_ge j n with hlt | hge
      · obtain ⟨b, off, rfl, hlo, hcell⟩ := Hx.out.el j hlt
        have hc2 : wc.cell? ⟨b, off + j, none⟩ = some (.string (tx j)) := by
          simp only [World.cell?] at hcell ⊢
          rw [Hlx.out.2 b hlo]
          exact hcell
        have hjz : (j : Int) < (n : Int) := by omega
        have hj0 : (0 : Int) ≤ (j : Int) := by omega
        have h255 := Hz.out j hlt
        have hSz : S.size ≤ 33000 := by
          have e : S.size = S.data.toList.length := rfl
          have h1 := listT_len (tx := tx) (n := j) fun i hi => Hz.out i (by omega)
          rw [e, hS, List.length_append]
          have : listPre.data.toList.length = 27 := rfl
          omega
        generalize hs : tx j = s at hc2 h255
        have Hlt := Lib.hid hlt
        have HS := Lib.hid hS
        have Hs := Lib.hid hs
        have HSz := Lib.hid hSz
        have qa : ¬ 9223372036854775807 < S.size + 1 := by omega
        have qb : ¬ 9223372036854775807 < S.size + 1 + 1 := by omega
        have base : ∃ B : List UInt8, B = listPre.data.toList ++ listT tx j ++ ((if 0 < j then [59] else []) ++ [34]) := ⟨_, rfl⟩
        obtain ⟨B, hB⟩ := base
        have HB := Lib.hid hB
        clear hcell hlo hS hs hSz hB hj
        by_cases hj1 : (0 : Int) < (j : Int)
        all_goals (
          go_wp2_with fail
          go_loop [5, 7] (fun s5 s7 => ∃ (k : Nat) (S : ByteArray), k ≤ s.size ∧ s7 = .int .i64 k ∧ s5 = .string S ∧ S.data.toList = B ++ quoteB (s.data.toList.take k)) (fun _ s7 => s.size - (intOf s7).toNat)
          case atStart =>
            refine ⟨0, _, Nat.zero_le _, rfl, rfl, ?_⟩
            rw [HB.out]
            simp only [data_app, HS.out, List.take_zero, quoteB, List.append_nil, List.append_assoc]
            first
              | (rw [if_pos (show 0 < j by omega)]; try rfl)
              | (rw [if_neg (show ¬ 0 < j by omega)]; try rfl)
          case round =>
            obtain ⟨k, S1, hk, rfl, rfl, hS1⟩ := hrel
            have hS1z : S1.size ≤ 35000 := by
              have e : S1.size = S1.data.toList.length := rfl
              have h1 := quoteB_len (s.data.toList.take k)
              rw [List.length_take] at h1
              have h2 : S.data.toList.length = S.size := rfl
              have h3 := HSz.out
              rw [HS.out] at h2
              rw [e, hS1, List.length_append, HB.out, List.length_append]
              have h4 : ((if 0 < j then [59] else []) ++ [(34 : UInt8)]).length ≤ 2 := by split <;> simp
              omega
            have HS1 := Lib.hid hS1
            rcases Nat.lt_or_ge k s.size with hlt2 | hge2
            · have hkz : (k : Int) < (s.size : Int) := by omega
              have hk0 : (0 : Int) ≤ (k : Int) := by omega
              have hk1 : (k : Int) + 1 ≤ (s.size : Int) := by omega
              have htq := Lib.hid (take_quote s k hlt2)
              have hx1 := ext_one s k hlt2
              have qc : ¬ 9223372036854775807 < S1.size + 1 := by omega
              have qd : ¬ 9223372036854775807 < S1.size + 1 + 1 := by omega
              obtain ⟨cb, hcb⟩ : ∃ cb, s[k]'hlt2 = cb := ⟨_, rfl⟩
              rw [hcb] at hx1
              have Hlt2 := Lib.hid hlt2
              have hsl : ∀ w, (Instr.slice 9 (.string s) (some (.int .i64 k)) (some (.int .i64 (k + 1))) none).run Tryz.prog w = .ok (.string ⟨#[cb]⟩) w := fun w => by
                rw [run_slice_str s k (k + 1) (by omega) (by omega) (by omega) w, show ((k : Int)).toNat = k by omega, show ((k : Int) + 1).toNat = k + 1 by omega, hx1]
              have Hcb := Lib.hid hcb
              clear hx1 hS1 hk hS1z
              by_cases c34 : cb = 34
              · have e34 : (((s[k]'hlt2).toNat : Int) == 34) = true := by rw [hcb, c34]; rfl
                have Hc := Lib.hid c34
                clear hcb c34
                go_wp2_with fail
                refine ⟨⟨k + 1, _, Hlt2.out, rfl, rfl, ?_⟩, by have := Hlt2.out; simp only [intOf]; omega⟩
                simp only [data_app, HS1.out, htq.out, Hcb.out, Hc.out, if_true, List.append_assoc]
                rfl
              · have e34 : (((s[k]'hlt2).toNat : Int) == 34) = false := by
                  rw [hcb, beq_eq_false_iff_ne]
                  intro h
                  exact c34 (UInt8.toNat_inj.mp (by show cb.toNat = 34; omega))
                have Hc := Lib.hid c34
                clear hcb c34
                go_wp2_with fail
                refine ⟨⟨k + 1, _, Hlt2.out, rfl, rfl, ?_⟩, by have := Hlt2.out; simp only [intOf]; omega⟩
                simp only [data_app, HS1.out, htq.out, Hcb.out, List.append_assoc]
                rw [if_neg Hc.out]
            · have hke : k = s.size := by omega
              have hkz : ¬ (k : Int) < (s.size : Int) := by omega
              have qc : ¬ 9223372036854775807 < S1.size + 1 := by omega
              have Hke := Lib.hid hke
              clear hS1 hk hS1z hge2 hke
              go_wp2_with fail
              refine ⟨⟨j + 1, _, Hlt.out, rfl, rfl, ?_⟩, by have := Hlt.out; simp only [intOf]; omega⟩
              have ht : s.data.toList.take k = s.data.toList := List.take_of_length_le (by rw [Hke.out]; exact Nat.le_refl _)
              have hl : listT tx (j + 1) = listT tx j ++ ((if 0 < j then [59] else []) ++ itemT (tx j)) := rfl
              rw [data_app, HS1.out, ht, HB.out, hl, Hs.out]
              simp only [itemT, List.append_assoc, List.cons_append, List.nil_append])
      · obtain rfl : j = n := by omega
        have hjz : ¬ (j : Int) < (j : Int) := by omega
        have hSz : S.size ≤ 33000 := by
          have e : S.size = S.data.toList.length := rfl
          have h1 := listT_len (tx := tx) (n := j) fun i hi => Hz.out i (by omega)
          rw [e, hS, List.length_append]
          have : listPre.data.toList.length = 27 := rfl
          omega
        have qc : ¬ 9223372036854775807 < S.size + 1 := by omega
        have HS := Lib.hid hS
        clear hS hSz hge
        go_wp2_with fail
        go_ret2
        refine ⟨?_, Hbx.out⟩
        have e : S ++ ⟨#[41]⟩ = ⟨(listAll tx j).toArray⟩ := by
          apply ByteArray.ext
          apply Array.toList_inj.1
          rw [data_app, HS.out]
          rfl
        show Ending.returned (.tuple #[.string (S ++ ⟨#[41]⟩), .int .i64 0]) = _
        rw [e]
end Go.Proofs.YtkeibmkcgnppeaaGreatDoor
namespace Go.Proofs.YtkeibmkcgnppeaaGreatDoor
open Go Go.RowKit
set_option maxRecDepth 100000
attribute [local go_sem ↓] Go.wp_at_zero Go.wp_at_succ
theorem Consts.later {W w : World} (h : Consts W) (hl : Later W w) : Consts w := by
  intro g off v hv
  obtain ⟨h1, h2⟩ := h g off v hv
  refine ⟨Nat.lt_of_lt_of_le h1 hl.1, ?_⟩
  simp only [World.cell?] at h2 ⊢
  rw [hl.2 g h1]
  exact h2
theorem Later.trans {W w v : World} (h : Later W w) (k : Later w v) : Later W v := ⟨Nat.le_trans h.1 k.1, fun j hj => (k.2 j (Nat.lt_of_lt_of_le hj h.1)).trans (h.2 j hj)⟩
theorem info9 : (Tryz.prog.info? 9).map (fun i => (i.zero, i.size, i.bytes)) = some (some (.string ⟨#[]⟩), 1, 16) := by kernel_rfl
theorem alloc4 {w W : World} {o0 o1 o2 o3 : Obj} (h : (((w.alloc o0).alloc o1).alloc o2).alloc o3 = W) :
    W.heap.size = w.heap.size + 4 ∧ W.heap[w.heap.size]? = some o0 ∧ W.heap[w.heap.size + 1]? = some o1 ∧ W.heap[w.heap.size + 1 + 1]? = some o2 ∧ Below w.heap.size w W := by
  subst h
  refine ⟨by simp, ?_, ?_, ?_, (((((Below.refl _ _).alloc (Nat.le_refl _) _).alloc (by simp) _).alloc (by simp <;> omega) _).alloc (by simp <;> omega) _)⟩
  · exact alloc_kept (alloc_kept (alloc_kept (heap_alloc_new _ _)))
  · exact alloc_kept (alloc_kept (heap_alloc2_new _ _ _))
  · have e : w.heap.size + 1 + 1 = ((w.alloc o0).alloc o1).heap.size := by simp
    rw [e]
    exact alloc_kept (heap_alloc_new _ _)
theorem range_block {w : World} {b : Nat} {arr : Array Value} {e : TypeId} {r : Nat × Nat} (h : w.heap[b]? = some (.cells arr e r)) : w.rangeAt b 0 arr.toList := by
  intro j v hj
  simp only [World.cell?, h]
  simpa using hj
theorem from_list {W : World} (hg : Consts W) {a : Option Addr} {n c : Nat} {tx : Nat → ByteArray} (hx : TextsAt W a n tx) (h64 : n ≤ 64) (hr : Ck.Both W 107 34 #[Ru.ruleV 4 0 0 a n c] true) {w w3 : World} (hw : Later W w) {o0 o3 : Obj}
    (h : (((w.alloc o0).alloc (.cells (Ru.cell0 ++ [Value.int .i64 4, Value.float .f64 0, Value.float .f64 0, Value.slice a n c]).toArray 78)).alloc (.cells #[.string ⟨#[97]⟩, .slice (some ⟨w.heap.size + 1, 0, none⟩) 1 1] 81)).alloc o3 = w3) :
    Calls Tryz.prog 31 #[.agg #[.slice (some ⟨w.heap.size + 1 + 1, 0, none⟩) 1 1, .slice none 0 0, .slice none 0 0]] w3 fun e w' => (∃ x, e = .returned (.tuple #[x, .int .i64 0])) ∧ Below w.heap.size w w' ∧ w'.heap[w.heap.size]? = some o0 ∧ w.heap.size < w'.heap.size := by
  obtain ⟨h0, h1, h2, h3, h4⟩ := alloc4 h
  have hl := hw.below h4
  have := Ru.from31 (W := w3) (S := { lo := 0, hi := 0, l := .slice a n c, n := n, k := 4, s := .slice (some ⟨w.heap.size + 1 + 1, 0, none⟩) 1 1, p := .pointer (some ⟨w.heap.size + 1 + 1, 0, none⟩), c := .slice (some ⟨w.heap.size + 1, 0, none⟩) 1 1, q := .pointer (some ⟨w.heap.size + 1, 0, none⟩) })
    (hg.later hl) rfl (fun v hv => hr v (hl.trans hv)) ⟨a, c, rfl⟩ (fun v hv => Ru.clone111 hx h64 v (hl.trans hv))
    ⟨w.heap.size + 1 + 1, 0, 1, w.heap.size + 1, 0, 1, rfl, rfl, rfl, rfl, by omega, by omega, range_block h3, range_block h2⟩ w3 (Later.refl _)
  refine this.mono fun e w' he => ⟨he.1, h4.trans (he.2.mono h4.size), (he.2.block _ (by omega)).trans h1, by have := he.2.size; omega⟩
theorem owns_later {w w' : World} {B : Nat} {e : TypeId} {sz n : Nat} {v : Value} {xs : List Value} (h : w.ownsRow B e sz v n xs) (hb : Below w.heap.size w w') : w'.ownsRow B e sz v n xs := by
  refine ⟨h.1, ?_⟩
  rcases h.2 with h0 | ⟨q, cp, cur, h1, h2, h3, h4⟩
  · exact .inl h0
  · exact .inr ⟨q, cp, cur, h1, h2, by rw [hb.block q (lt_of_some h3)]; exact h3, h4⟩
def itemB (s : ByteArray) : ByteArray := ⟨(itemT s).toArray⟩
theorem replace32 {W : World} {H L : Nat → Nat} (hg : Ground W H L) (s : ByteArray) (hs : s.size ≤ 255) (w : World) (hw : Later W w) :
    Calls Tryz.prog 32 #[.string s, .string ⟨#[34]⟩, .string ⟨#[34, 34]⟩] w fun e w' => e = .returned (.string ⟨(quoteB s.data.toList).toArray⟩) ∧ Below w.heap.size w w' := by
  obtain ⟨m, hm⟩ := (hg.num.later hw).most
  have hc : Lib.countB s ⟨#[34]⟩ ≤ s.size := count_quote_le s.data.toList
  have h2 : (⟨#[34, 34]⟩ : ByteArray).size = 2 := rfl
  have := Tryz.strings_ReplaceAll s ⟨#[34]⟩ ⟨#[34, 34]⟩ m w (by omega) hm (Nat.le_refl _) (by rw [h2]; omega)
  refine this.mono fun e w' he => ⟨?_, he.2⟩
  rw [he.1, ← replaceAll_quote]
  
theorem join33 {w : World} {B n : Nat} {v : Value} {tx : Nat → ByteArray} (h : w.ownsRow B 9 1 v n ((List.range n).map fun i => Value.string (itemB (tx i)))) (h1 : 1 ≤ n) (h64 : n ≤ 64) (hz : ∀ j, j < n → (tx j).size ≤ 255) :
    Calls Tryz.prog 33 #[v, .string ⟨#[59]⟩] w fun e w' => e = .returned (.string ⟨(listT tx n).toArray⟩) ∧ Below w.heap.size w w' := by
  have hc := fun g hg => h.cells (g := g) hg
  have hlt := h.lt
  rcases h.2 with ⟨_, h0⟩ | ⟨g, cap, cur, rfl, h2, h3, h4, h5, h6, h7⟩
  · omega
  · have hj : Lib.join (((List.range n).map fun i => itemB (tx i)).map (·.data.toList)) ((⟨#[59]⟩ : ByteArray).data.toList) = listT tx n := by
      rw [← listT_join, List.map_map]
      rfl
    have hl := listT_len (tx := tx) (n := n) hz
    have := Tryz.strings_Join g 0 cap ((List.range n).map fun i => itemB (tx i)) ⟨#[59]⟩ w ?_ (hlt g rfl).2 (by simp; omega) (by simpa using h4) (by rw [hj]; omega)
    · rw [hj] at this
      simpa using this
    · intro j x hx
      have h9 := hc g rfl j (.string x) (by
        rw [List.getElem?_map] at hx ⊢
        rcases hr : (List.range n)[j]? with _ | y
        · rw [hr] at hx; cases hx
        · rw [hr] at hx
          simp only [Option.map_some, Option.some.injEq] at hx ⊢
          rw [hx])
      have e : ((⟨g, 0, none⟩ : Addr).add j) = ⟨g, 0 + j, none⟩ := by unfold Addr.add; split <;> simp_all
      rw [e] at h9
      exact h9
theorem cond11_list {W : World} {H L : Nat → Nat} (hg : Ground W H L) (hT : TabOk H L) {a : Option Addr} {n c : Nat} {tx : Nat → ByteArray} (hx : TextsAt W a n tx) (h1n : 1 ≤ n) (h64 : n ≤ 64) (hsz : ∀ j, j < n → (tx j).size ≤ 255)
    (hr : Ck.Both W 107 34 #[Ru.ruleV 4 0 0 a n c] true) (w : World) (hw : Later W w) :
    Calls Tryz.prog 11 #[Ru.ruleV 4 0 0 a n c] w fun e w' => e = .returned (.tuple #[.string ⟨(listAll tx n).toArray⟩, .int .i64 0]) ∧ Below w.heap.size w w' := by
  obtain ⟨t0, s0, c0⟩ := Ru.bound_texts hg hT (v := 0) (by decide) (by decide)
  have Hc := Lib.hid c0
  have Hr := Lib.hid hr
  have Hw := Lib.hid hw
  have Hx := Lib.hid hx
  have Hz := Lib.hid hsz
  unfold Ru.ruleV at Hr ⊢
  have Hf := Lib.hid (fun (o0 o3 : Obj) (w3 : World) h => from_list hg.cs hx h64 hr hw (o0 := o0) (o3 := o3) (w3 := w3) h)
  have Hg := Lib.hid hg
  clear hT hr hw hx c0 hsz hg
  go_enter Tryz.func11, Tryz.ntmps11
  go_upto_region 5 with (go_at_call 31; go_loud (refine (Hf.out _ _ _ rfl).mono ?_); rintro e w1 ⟨⟨x31, rfl⟩, hb1, g1, lt1⟩; have Hb1 := Lib.hid hb1; clear hb1; obtain ⟨k0, k1, k2, k3⟩ := four_at g1)
  go_cut [7] (fun s7 wx => (∃ s, s7 = .string s) ∧ Below w.heap.size w wx ∧ wx.heap[w.heap.size]? = some (.cells #[.int .i64 4, .float .f64 0, .float .f64 0, .slice a n c] 43 (0, 0)))
  case first =>
    have Hl1 := Lib.hid (Hw.out.below Hb1.out)
    have G1 := Lib.hid g1
    have k1d : w1.drew.cell? ⟨w.heap.size, 1, none⟩ = some (.float .f64 0) := k1
    have k2d : w1.drew.cell? ⟨w.heap.size, 2, none⟩ = some (.float .f64 0) := k2
    have q1 : ¬ 9223372036854775807 < 11 + t0.size := by omega
    have q2 : ¬ 9223372036854775807 < 11 + t0.size + 1 := by omega
    have q3 : ¬ 9223372036854775807 < 11 + t0.size + 1 + t0.size := by omega
    have q4 : ¬ 9223372036854775807 < 11 + t0.size + 1 + t0.size + 1 := by omega
    clear g1
    go_region_held3 (fun w' => w'.cell? ⟨w.heap.size, 1, none⟩ = some (.float .f64 0) ∧ w'.cell? ⟨w.heap.size, 2, none⟩ = some (.float .f64 0))
      (refine ⟨?_, ?_⟩ <;> (repeat first | with_reducible exact k1 | with_reducible exact k2 | with_reducible exact k1d | with_reducible exact k2d | rw [drew_cell] | rw [hb6.cell (by simp; omega)] | rw [hb5.cell (by simp; omega)]))
      (first
        | (go_at_call 24; have z5 := hb5; refine ((Hc.out _ (Hl1.out.below B5)).1.mono ?_); rintro e w6 ⟨rfl, hb6⟩; have B6 : Below w5.heap.size w5 w6 := hb6)
        | (go_at_call 24; refine ((Hc.out _ (by repeat first | exact Hl1.out | apply Later.drew)).1.mono ?_); rintro e w5 ⟨rfl, hb5⟩; have B5 : Below w1.heap.size w1 w5 := (by first | exact hb5 | exact below_d hb5); have hs5 : w1.heap.size ≤ w5.heap.size := B5.size))
    all_goals (
      go_wp2_with fail
      go_meet
      exact ⟨⟨_, rfl⟩, Hb1.out.trans ((B5.trans (B6.mono hs5)).mono (by omega)), (B6.block _ (by omega)).trans ((B5.block _ lt1).trans G1.out)⟩)
  case rest =>
    obtain ⟨⟨s7, rfl⟩, hbx, gx⟩ := hcut
    obtain ⟨m0, m1, m2, m3⟩ := four_at gx
    clear k0 k1 k2 k3
    have Hbx := Lib.hid hbx
    have Hlx := Lib.hid (Hw.out.below hbx)
    clear hbx gx g1
    obtain ⟨i9, hi9, hz9, hs9, hy9⟩ := info_parts info9
    have hcs : ∀ v : ByteArray, (Value.string v).oneCell' = true := fun _ => rfl
    go_wp2_with fail
    go_loopw [8, 56] (fun s8 s56 wr => ∃ (j : Nat) (v : Value), s8 = v ∧ j ≤ n ∧ s56 = .int .i64 j ∧ wr.ownsRow w.heap.size 9 1 v j ((List.range j).map fun i => Value.string (itemB (tx i))) ∧ Below w.heap.size w wr) (fun _ s56 _ => n - (intOf s56).toNat)
    case atStart => exact ⟨0, _, rfl, Nat.zero_le _, rfl, World.ownsRow_nil _ _ _ _, Hbx.out⟩
    case round =>
      obtain ⟨j, v, hv, hj, rfl, hown, hbw⟩ := hrel
      rcases Nat.lt_or_ge j n with hlt | hge
      · obtain ⟨b, off, rfl, hlo, hcell⟩ := Hx.out.el j hlt
        have hl : Later W wr := Hw.out.below hbw
        have hc2 : wr.cell? ⟨b, off + j, none⟩ = some (.string (tx j)) := by
          simp only [World.cell?] at hcell ⊢
          rw [hl.2 b hlo]
          exact hcell
        have h255 := Hz.out j hlt
        have cR := replace32 Hg.out (tx j) h255 wr hl
        have hjz : (j : Int) < (n : Int) := by omega
        have hj0 : (0 : Int) ≤ (j : Int) := by omega
        generalize hs : tx j = s at hc2 h255 cR
        have hql := quoteB_len s.data.toList
        have hsl : s.data.toList.length = s.size := rfl
        have hrs : (⟨(quoteB s.data.toList).toArray⟩ : ByteArray).size = (quoteB s.data.toList).length := rfl
        generalize hR : (⟨(quoteB s.data.toList).toArray⟩ : ByteArray) = R at cR hrs
        have qa : ¬ 9223372036854775807 < 1 + R.size := by omega
        have qb : ¬ 9223372036854775807 < 1 + R.size + 1 := by omega
        have HR := Lib.hid hR
        have Hs := Lib.hid hs
        have Hlt := Lib.hid hlt
        have Hown := Lib.hid hown
        have Hbw := Lib.hid hbw
        clear hcell hl hlo hs hR hql hsl hrs hlt hj hown hbw
        go_wp2_with (first
          | (go_at_call 32; refine cR.mono ?_; rintro e w2 ⟨rfl, hb2⟩; have Hb2 := Lib.hid hb2; clear hb2)
          | (at_builtin; go_loud (refine wpList_append_lies _ rfl (.tmp 60) (.tmp 65) 41 rfl w.heap.size 9 i9 _ 1 16 Tryz.underlying41 hi9 hz9 hs9 hy9 rfl (by omega) v j _ rfl ((owns_later Hown.out Hb2.out).alloc _) ⟨w2.heap.size, 0, none⟩ 1 1 [.string (⟨#[34]⟩ ++ R ++ ⟨#[34]⟩)] rfl rfl (news_at (cs := #[.string (⟨#[34]⟩ ++ R ++ ⟨#[34]⟩)]) rfl) (by simp [Value.oneCell']) (by omega) (by unfold maxLen; omega) (by omega) (by have h1 := Hbw.out.size; have h2 := Hb2.out.size; simp; omega) (w2.heap.size + 1) (by simp) ?_); intro g cap w3 hown3 hgrow hat hlt3; have Hown3 := Lib.hid hown3; have Hgrow := Lib.hid hgrow; clear hown3 hgrow hat hlt3))
        refine ⟨⟨j + 1, _, rfl, Hlt.out, rfl, ?_, ?_⟩, round_measure Hlt.out⟩
        · have e : (⟨#[34]⟩ ++ R ++ ⟨#[34]⟩ : ByteArray) = itemB (tx j) := by
            rw [Hs.out, ← HR.out]
            apply ByteArray.ext
            apply Array.toList_inj.1
            rw [data_app, data_app]
            rfl
          have h := Hown3.out
          rw [e] at h
          rw [List.range_succ, List.map_append]
          exact h
        · have b2 : Below w.heap.size w w2 := Hbw.out.trans (Hb2.out.mono Hbw.out.size)
          exact below_grow (b2.alloc b2.size _) Hgrow.out fun k hk => (Hown.out.lt k hk).1
      · obtain rfl : j = n := by omega
        have hjz : ¬ (j : Int) < (j : Int) := by omega
        have cJ := join33 hown h1n h64 Hz.out
        have hlen := listT_len (tx := tx) (n := j) Hz.out
        have hrs : (⟨(listT tx j).toArray⟩ : ByteArray).size = (listT tx j).length := rfl
        have hall : listPre ++ ⟨(listT tx j).toArray⟩ ++ ⟨#[41]⟩ = (⟨(listAll tx j).toArray⟩ : ByteArray) := by
          apply ByteArray.ext
          apply Array.toList_inj.1
          rw [data_app, data_app]
          rfl
        generalize hR : (⟨(listT tx j).toArray⟩ : ByteArray) = R at cJ hrs hall
        have qa : ¬ 9223372036854775807 < 27 + R.size := by omega
        have qb : ¬ 9223372036854775807 < 27 + R.size + 1 := by omega
        have Hbw := Lib.hid hbw
        have Hall := Lib.hid hall
        clear hbw hall hR hrs hlen hown
        go_wp2_with (go_at_call 33; refine cJ.mono ?_; rintro e w2 ⟨rfl, hb2⟩; have Hb2 := Lib.hid hb2; clear hb2)
        go_ret2
        refine ⟨?_, Hbw.out.trans (Hb2.out.mono Hbw.out.size)⟩
        show Ending.returned (.tuple #[.string (listPre ++ R ++ ⟨#[41]⟩), .int .i64 0]) = _
        rw [Hall.out]
end Go.Proofs.YtkeibmkcgnppeaaGreatDoor

/- A float s digits and its text. -/
import Derived.Test.YtkeibmkcgnppeaaGreatDoorZFc
import Derived.Test.YtkeibmkcgnppeaaGreatDoorZFb
import Derived.Lib.IndexBytes
import Derived.Lib.Replace
import Derived.Lib.TrimByte
import Derived.Lib.Atoi
import Derived.Test.YtkeibmkcgnppeaaGreatDoorZShelf
import Derived.Lib.SmallJoins
import Derived.Lib.Repeat
import Derived.Lib.Hide
import Derived.Lib.ItoaLen
import Derived.Laws.CopyOwn
set_option maxHeartbeats 32000000
set_option linter.unusedSimpArgs false
set_option linter.unusedVariables false
namespace Go.Proofs.YtkeibmkcgnppeaaGreatDoor
open Go
set_option maxRecDepth 100000
theorem indexByte_at : ∀ (a r : List UInt8) (c : UInt8), (∀ x ∈ a, x ≠ c) → Lib.indexByte (a ++ c :: r) c = a.length
  | [], r, c, _ => by simp [Lib.indexByte]
  | x :: a, r, c, h => by
    have hx : x ≠ c := h x (by simp)
    have ih := indexByte_at a r c (fun y hy => h y (by simp [hy]))
    simp only [List.cons_append, Lib.indexByte]
    rw [ih]
    simp [hx]
theorem index_at {a r : List UInt8} {c : UInt8} (h : ∀ x ∈ a, x ≠ c) : Lib.index (a ++ c :: r) [c] = a.length := by
  rw [Lib.index_one, indexByte_at a r c h]
theorem cut_at {a r : List UInt8} {c : UInt8} (h : ∀ x ∈ a, x ≠ c) : Lib.cut (a ++ c :: r) [c] = (a, r, true) := by
  unfold Lib.cut
  rw [index_at h, if_pos (by omega)]
  simp
theorem Dig.mem {l : List UInt8} (h : Dig l) : ∀ x ∈ l, 48 ≤ x.toNat ∧ x.toNat ≤ 57 := by
  intro x hx
  obtain ⟨j, hj, rfl⟩ := List.getElem_of_mem hx
  exact h.dig j hj
theorem pointed_mem {l : List UInt8} (h : ∀ x ∈ l, 48 ≤ x.toNat ∧ x.toNat ≤ 57) : ∀ x ∈ pointed l, x ≠ 101 := by
  intro x hx
  match l, h, hx with
  | [], _, hx => simp [pointed] at hx
  | [c], h, hx =>
    simp only [pointed, List.mem_singleton] at hx
    subst hx
    intro e
    have := h x (by simp)
    rw [e] at this
    revert this
    decide
  | c :: d :: r, h, hx =>
    simp only [pointed, List.mem_cons] at hx
    rcases hx with rfl | rfl | rfl | hx
    · intro e; have := h x (by simp); rw [e] at this; revert this; decide
    · decide
    · intro e; have := h x (by simp); rw [e] at this; revert this; decide
    · intro e; have := h x (by simp [hx]); rw [e] at this; revert this; decide
def expT (E : Int) : List UInt8 := (if E < 0 then 45 else 43) :: expD E.natAbs
theorem cut_e {l : List UInt8} {E : Int} (h : Dig l) : Lib.cut (eText l E) [101] = (pointed l, expT E, true) := cut_at (pointed_mem h.mem)
theorem digitVal_dig {k : Nat} (h : k < 10) : Lib.digitVal (dig k) = some k := by
  have hn : (dig k).toNat = 48 + k := by
    unfold dig
    rw [UInt8.toNat_ofNat']
    omega
  unfold Lib.digitVal
  rw [hn, if_pos (by omega)]
  congr 1
  omega
theorem decNat_exp {k : Nat} (h : k < 1000) : Lib.decNat (expD k) = some k := by
  have h48 : Lib.digitVal 48 = some 0 := by decide
  unfold expD
  split
  · rename_i h1
    simp only [Lib.decNat, List.isEmpty_cons, Bool.false_eq_true, if_false, Lib.decFrom, h48, digitVal_dig h1]
    congr 1
    omega
  · split
    · simp only [Lib.decNat, List.isEmpty_cons, Bool.false_eq_true, if_false, Lib.decFrom, digitVal_dig (k := k / 10) (by omega), digitVal_dig (k := k % 10) (by omega)]
      congr 1
      omega
    · simp only [Lib.decNat, List.isEmpty_cons, Bool.false_eq_true, if_false, Lib.decFrom, digitVal_dig (k := k / 100) (by omega), digitVal_dig (k := k / 10 % 10) (by omega), digitVal_dig (k := k % 10) (by omega)]
      congr 1
      omega
theorem atoi_exp {E : Int} (h0 : -900 ≤ E) (h1 : E ≤ 900) : Lib.atoi (expT E) = some E := by
  unfold expT
  have hd := decNat_exp (k := E.natAbs) (by omega)
  by_cases h : E < 0
  · rw [if_pos h]
    simp only [Lib.atoi, beq_self_eq_true, if_true, hd, Option.map_some]
    congr 1
    omega
  · rw [if_neg h]
    simp only [Lib.atoi, show ((43 : UInt8) == 45) = false by decide, beq_self_eq_true, if_true, Bool.false_eq_true, if_false, hd, Option.map_some]
    congr 1
    omega
theorem expT_len {E : Int} : (expT E).length ≤ 4 := by
  unfold expT expD
  split <;> (try split) <;> (try split) <;> simp
theorem trim_dig {l : List UInt8} (h : Dig l) : Lib.trimRightB l 48 = l := by
  have := Lib.trimRightB_take l 48 l.length (Nat.le_refl _) (fun j b hj hb => by
    rw [List.getElem?_eq_none hj] at hb; cases hb) (fun b hp hb => by
    have hl : l.length - 1 < l.length := by omega
    rw [List.getElem?_eq_getElem hl, Option.some.injEq] at hb
    subst hb
    intro e
    exact h.last hl (by rw [e]; rfl))
  rw [this, List.take_length]
theorem digits_no46 {l : List UInt8} (h : ∀ x ∈ l, 48 ≤ x.toNat ∧ x.toNat ≤ 57) : ∀ x ∈ l, x ≠ 46 := by
  intro x hx e
  have := h x hx
  rw [e] at this
  revert this
  decide
theorem indexByte_not : ∀ (a : List UInt8) (c : UInt8), (∀ x ∈ a, x ≠ c) → Lib.indexByte a c = -1
  | [], _, _ => rfl
  | x :: a, c, h => by
    have hx : x ≠ c := h x (by simp)
    have ih := indexByte_not a c (fun y hy => h y (by simp [hy]))
    simp only [Lib.indexByte]
    rw [ih]
    simp [hx]
theorem index_not {a : List UInt8} {c : UInt8} (h : ∀ x ∈ a, x ≠ c) : Lib.index a [c] = -1 := by
  rw [Lib.index_one, indexByte_not a c h]
theorem replace_point {l : List UInt8} (h : Dig l) : Lib.replace (pointed l) [46] [] 1 = l := by
  have hm := h.mem
  unfold Lib.replace
  rw [if_neg (by decide)]
  match l, hm with
  | [], _ => rfl
  | [c], hm =>
    have hi : Lib.index [c] [46] = -1 := index_not (digits_no46 hm)
    have hk : ∀ n, Lib.replaceK [46] [] n [c] = [c] := fun n => by
      cases n with
      | zero => rfl
      | succ n => rw [Lib.replaceK, hi]; rfl
    exact hk _
  | c :: d :: r, hm =>
    have hc : ∀ x ∈ [c], x ≠ 46 := fun x hx => digits_no46 hm x (by simp at hx; simp [hx])
    have hi : Lib.index (c :: 46 :: d :: r) [46] = ((1 : Nat) : Int) := index_at (a := [c]) (r := d :: r) hc
    have hr : Lib.index (d :: r) [46] = -1 := index_not (fun x hx => digits_no46 hm x (List.mem_cons_of_mem c hx))
    have hcount : Lib.count (c :: 46 :: d :: r) [46] = 1 := by
      unfold Lib.count
      rw [Lib.countFrom, hi]
      show (if (((1 : Nat) : Int) == -1) = true then 0 else 1 + Lib.countFrom [46] (c :: 46 :: d :: r).length (d :: r)) = 1
      rw [if_neg (by decide), List.length_cons, Lib.countFrom, hr]
      rfl
    have hnum : Lib.replaceNum (pointed (c :: d :: r)) [46] 1 = 1 := by
      show Lib.replaceNum (c :: 46 :: d :: r) [46] 1 = 1
      unfold Lib.replaceNum
      rw [hcount]
      rfl
    rw [hnum]
    show Lib.replaceK [46] [] 1 (c :: 46 :: d :: r) = _
    rw [Lib.replaceK_hit [46] [] 0 _ 1 hi]
    rfl
open Go Go.RowKit Go.Sort
set_option maxRecDepth 100000
structure TabOk (H L : Nat → Nat) : Prop where
  h0 : ∀ i, i < 696 → 9223372036854775808 ≤ H i
  h1 : ∀ i, i < 696 → H i < 18446744073709551616
  l1 : ∀ i, i < 696 → L i < 18446744073709551616
structure NumW (w : World) (H L : Nat → Nat) : Prop where
  tabs : NumTabs w.heap.size w H L
  most : ∃ m : Int, w.cell? ⟨3, 0, none⟩ = some (.int .i64 m)
theorem NumW.below {w w' : World} {H L : Nat → Nat} (h : NumW w H L) (hb : Below w.heap.size w w') : NumW w' H L where
  tabs := ⟨h.tabs.powAt hb, fun w2 hb2 => h.tabs.ten w2 (hb.trans (hb2.mono hb.size)), Nat.lt_of_lt_of_le h.tabs.lt hb.size⟩
  most := by
    obtain ⟨m, hm⟩ := h.most
    have := h.tabs.lt
    exact ⟨m, by rw [hb.cell (show 3 < w.heap.size by omega)]; exact hm⟩
theorem ba_size (l : List UInt8) : (⟨l.toArray⟩ : ByteArray).size = l.length := by simp [ByteArray.size]
theorem eText_len {l : List UInt8} {E : Int} (h : Dig l) : (eText l E).length ≤ 30 := by
  have h1 := h.few
  have h2 : (pointed l).length ≤ l.length + 1 := by
    match l with
    | [] => simp [pointed]
    | [c] => simp [pointed]
    | c :: d :: r => simp [pointed]
  have h3 := expT_len (E := E)
  have : eText l E = pointed l ++ 101 :: expT E := rfl
  rw [this, List.length_append, List.length_cons]
  omega
theorem pointed_len {l : List UInt8} : (pointed l).length ≤ l.length + 1 := by
  match l with
  | [] => simp [pointed]
  | [c] => simp [pointed]
  | c :: d :: r => simp [pointed]
structure DE (l : List UInt8) (E : Int) : Prop where
  dig : Dig l
  lo : -450 ≤ E
  hi : E ≤ 450
theorem digs_of (H L : Nat → Nat) (hT : TabOk H L) (a : Nat) (ha : Plain a) : ∃ (l : List UInt8) (E : Int), DE l E ∧ ∀ (w : World), NumTabs w.heap.size w H L →
      Calls Tryz.prog 139 #[.float .f64 a, .int .u8 101, .int .i64 (-1), .int .i64 64] w fun e w' => e = .returned (.string ⟨(eText l E).toArray⟩) ∧ Below w.heap.size w w' := by
  obtain ⟨l, E, h1, h2, h3, h4⟩ := format_call H L hT.h0 hT.h1 hT.l1 a ha
  exact ⟨l, E, ⟨h1, h2, h3⟩, h4⟩
theorem digits_call {H L : Nat → Nat} {v : Nat} {l : List UInt8} {E : Int} (hv : Plain (absB v)) (hd : DE l E)
    (hf : ∀ (w : World), NumTabs w.heap.size w H L → Calls Tryz.prog 139 #[.float .f64 (absB v), .int .u8 101, .int .i64 (-1), .int .i64 64] w fun e w' => e = .returned (.string ⟨(eText l E).toArray⟩) ∧ Below w.heap.size w w')
    (w : World) (hW : NumW w H L) :
    Calls Tryz.prog 89 #[.float .f64 v] w fun e w' => e = .returned (.tuple #[.string ⟨l.toArray⟩, .int .i64 (E + 1), .int .i64 0]) ∧ Below w.heap.size w w' := by
  have F := fin_of hv.1 hv.2
  have hr : ∀ w, (binOp .eql 22 (.float .f64 v) (.float .f64 0)).run Tryz.prog w = .ok (.bool false) w := fun w => by
    rw [run_feql, show (FloatKind.f64.format.order v 0 == some .eq) = false by rw [beq_eq_false_iff_ne]; exact F.nought]
  have h1 := hd.lo
  have h2 := hd.hi
  go_enter Tryz.func89, Tryz.ntmps89
  go_wp2_with fail
  refine (finite_call F.self F.abs _).mono ?_
  rintro e w' ⟨rfl, rfl⟩
  go_wp2_with fail
  refine (abs_call v _).mono ?_
  rintro e w' ⟨rfl, rfl⟩
  go_wp2_with fail
  refine (hf _ hW.tabs).mono ?_
  rintro e w1 ⟨rfl, hb1⟩
  obtain ⟨m, hm⟩ := (hW.below hb1).most
  have hcut := Tryz.strings_Cut ⟨(eText l E).toArray⟩ ⟨#[101]⟩ m w1 (by rw [ba_size]; have := eText_len (E := E) hd.dig; omega) hm
  rw [show (⟨(eText l E).toArray⟩ : ByteArray).data.toList = eText l E from by simp, show (⟨#[101]⟩ : ByteArray).data.toList = [101] from rfl, cut_e hd.dig] at hcut
  go_wp2_with fail
  refine hcut.mono ?_
  rintro e w2 ⟨rfl, n2, rfl⟩
  have hb2 := below_drewN hb1 n2
  go_wp2_with fail
  refine (Tryz.strconv_Atoi ⟨(expT E).toArray⟩ E (by rw [ba_size]; have := expT_len (E := E); omega) (by simpa using atoi_exp (E := E) (by omega) (by omega)) _).mono ?_
  rintro e w3 ⟨rfl, t3, rfl⟩
  have hb3 : Below w'.heap.size w' (Lib.bytesWorld (w1.drewN n2) 5 t3) := hb2.trans (Go.Joins.below_bytesWorld _ _ 5 t3 hb2.size)
  generalize hw3 : Lib.bytesWorld (w1.drewN n2) 5 t3 = w3 at hb3
  clear hw3 hb2 hb1 hcut hm
  obtain ⟨m, hm⟩ := (hW.below hb3).most
  have hrep := Tryz.strings_Replace ⟨(pointed l).toArray⟩ ⟨#[46]⟩ ⟨#[]⟩ 1 m w3 (by rw [ba_size]; have := pointed_len (l := l); have := hd.dig.few; omega) hm (by decide) (by
    rw [ba_size]; have := pointed_len (l := l); have := hd.dig.few
    show _ + _ * 0 ≤ _
    omega)
  rw [show (⟨(pointed l).toArray⟩ : ByteArray).data.toList = pointed l from by simp, show (⟨#[46]⟩ : ByteArray).data.toList = [46] from rfl, show (⟨#[]⟩ : ByteArray).data.toList = [] from rfl, replace_point hd.dig] at hrep
  go_wp2_with fail
  refine hrep.mono ?_
  rintro e w4 ⟨rfl, hb4⟩
  have hb5 : Below w'.heap.size w' w4 := hb3.trans (hb4.mono hb3.size)
  have htrim := Tryz.strings_TrimRight_one ⟨l.toArray⟩ 48 (by decide) w4 (by rw [ba_size]; have := hd.dig.few; omega)
  rw [show (⟨l.toArray⟩ : ByteArray).data.toList = l from by simp, trim_dig hd.dig] at htrim
  go_wp2_with fail
  refine htrim.mono ?_
  rintro e w5 ⟨rfl, rfl⟩
  go_wp2_with fail
  go_ret3
  exact ⟨rfl, hb5⟩
open Go Go.RowKit Go.Sort
set_option maxRecDepth 100000
def textE (neg : Bool) (l : List UInt8) (e : Int) : List UInt8 :=
  (if neg then [45] else []) ++
    (if e < -5 ∨ 21 < e then l.take 1 ++ (if 1 < l.length then 46 :: l.drop 1 else []) ++ 69 :: Lib.itoa (e - 1)
     else if e ≤ 0 then 48 :: 46 :: (Lib.repeatL [48] (-e).toNat ++ l)
     else if (l.length : Int) ≤ e then l ++ Lib.repeatL [48] (e - l.length).toNat
     else l.take e.toNat ++ 46 :: l.drop e.toNat)
theorem ba_ext (l : List UInt8) (i j : Nat) : (⟨l.toArray⟩ : ByteArray).extract i j = ⟨((l.take j).drop i).toArray⟩ := by
  apply ByteArray.ext
  apply Array.ext'
  simp [List.drop_take]
theorem repeat_len : ∀ c, (Lib.repeatL [48] c).length = c
  | 0 => rfl
  | c + 1 => by rw [Lib.repeatL, List.length_append, repeat_len c]; simp; omega
theorem text_ret {x y : ByteArray} (h : x = y) {w w' : World} (hb : Below w.heap.size w w') : Ending.returned (.tuple #[.string x, .int .i64 0]) = Ending.returned (.tuple #[.string y, .int .i64 0]) ∧ Below w.heap.size w w' := ⟨by rw [h], hb⟩
def DigCall (H L : Nat → Nat) (v : Nat) (l : List UInt8) (e : Int) : Prop := ∀ w, NumW w H L → Calls Tryz.prog 89 #[.float .f64 v] w fun o w' => o = .returned (.tuple #[.string ⟨l.toArray⟩, .int .i64 e, .int .i64 0]) ∧ Below w.heap.size w w'
theorem text_small_p {H L : Nat → Nat} {v : Nat} {l : List UInt8} {e : Int} (h3 : l.length ≤ 20) (h4 : 1 ≤ l.length) (hlo : -449 ≤ e) (hhi : e ≤ 451) (hneg : (FloatKind.f64.format.order v 0 == some .lt) = false) (c : Nat) (hc : e = -(c : Int)) (hc5 : c ≤ 5)
    (w : World) (hW : NumW w H L) (hdc : DigCall H L v l e) :
    Calls Tryz.prog 48 #[.float .f64 v] w fun o w' => o = .returned (.tuple #[.string ⟨(textE false l e).toArray⟩, .int .i64 0]) ∧ Below w.heap.size w w' := by
  have hr : ∀ w, (binOp .lss 22 (.float .f64 v) (.float .f64 0)).run Tryz.prog w = .ok (.bool false) w := fun w => by
    rw [run_flss, hneg]
  have hx : textE false l e = ([] : List UInt8) ++ ([48, 46]) ++ (Lib.repeatL [48] c) ++ (l) := by
    unfold textE
    rw [show (if (false : Bool) = true then [45] else []) = (([] : List UInt8) : List UInt8) from rfl]
    rw [if_neg (by omega), if_pos (by omega), show (-e).toNat = c by omega]
    simp
  have Hx := Lib.hid hx
  clear hx
  have g1 : ¬ e < -5 := by omega
  have g2 : ¬ 21 < e := by omega
  have g3 : e ≤ 0 := by omega
  have hnn : -e = (c : Int) := by omega
  have hrl : (Lib.repeatL [48] c).length = c := repeat_len c
  have Hc := Lib.hid hc
  clear hc
  go_enter Tryz.func48, Tryz.ntmps48
  go_wp2_with fail
  refine (hdc _ hW).mono ?_
  rintro o w1 ⟨rfl, hb1⟩
  go_wp2_with fail
  refine (Tryz.strings_Repeat ⟨#[48]⟩ c _ (by omega) (by rw [show (⟨#[48]⟩ : ByteArray).size = 1 from rfl]; omega)).mono ?_
  rintro o w2 ⟨rfl, hb2⟩
  go_wp2_with fail
  go_ret2
  refine text_ret ?_ (hb1.trans (hb2.mono hb1.size))
  rw [Hx.out]
  apply ByteArray.ext
  apply Array.ext'
  simp
  try rw [List.take_of_length_le (by simp)]
theorem text_big_p {H L : Nat → Nat} {v : Nat} {l : List UInt8} {e : Int} (h3 : l.length ≤ 20) (h4 : 1 ≤ l.length) (hlo : -449 ≤ e) (hhi : e ≤ 451) (hneg : (FloatKind.f64.format.order v 0 == some .lt) = false) (c : Nat) (hc : e - (l.length : Int) = (c : Int)) (hc21 : e ≤ 21)
    (w : World) (hW : NumW w H L) (hdc : DigCall H L v l e) :
    Calls Tryz.prog 48 #[.float .f64 v] w fun o w' => o = .returned (.tuple #[.string ⟨(textE false l e).toArray⟩, .int .i64 0]) ∧ Below w.heap.size w w' := by
  have hr : ∀ w, (binOp .lss 22 (.float .f64 v) (.float .f64 0)).run Tryz.prog w = .ok (.bool false) w := fun w => by
    rw [run_flss, hneg]
  have hx : textE false l e = ([] : List UInt8) ++ (l) ++ (Lib.repeatL [48] c) := by
    unfold textE
    rw [show (if (false : Bool) = true then [45] else []) = (([] : List UInt8) : List UInt8) from rfl]
    rw [if_neg (by omega), if_neg (by omega), if_pos (by omega), show (e - (l.length : Int)).toNat = c by omega]
    try simp
  have Hx := Lib.hid hx
  clear hx
  have g1 : ¬ e < -5 := by omega
  have g2 : ¬ 21 < e := by omega
  have g3 : ¬ e ≤ 0 := by omega
  have g4 : (l.length : Int) ≤ e := by omega
  have hrl : (Lib.repeatL [48] c).length = c := repeat_len c
  go_enter Tryz.func48, Tryz.ntmps48
  go_wp2_with fail
  refine (hdc _ hW).mono ?_
  rintro o w1 ⟨rfl, hb1⟩
  go_wp2_with fail
  refine (Tryz.strings_Repeat ⟨#[48]⟩ c _ (by omega) (by rw [show (⟨#[48]⟩ : ByteArray).size = 1 from rfl]; omega)).mono ?_
  rintro o w2 ⟨rfl, hb2⟩
  go_wp2_with fail
  go_ret2
  refine text_ret ?_ (hb1.trans (hb2.mono hb1.size))
  rw [Hx.out]
  apply ByteArray.ext
  apply Array.ext'
  simp
  try rw [List.take_of_length_le (by simp)]
theorem text_mid_p {H L : Nat → Nat} {v : Nat} {l : List UInt8} {e : Int} (h3 : l.length ≤ 20) (h4 : 1 ≤ l.length) (hlo : -449 ≤ e) (hhi : e ≤ 451) (hneg : (FloatKind.f64.format.order v 0 == some .lt) = false) (K : Nat) (hc : e = (K : Int)) (hK : 0 < K) (hKl : K < l.length)
    (w : World) (hW : NumW w H L) (hdc : DigCall H L v l e) :
    Calls Tryz.prog 48 #[.float .f64 v] w fun o w' => o = .returned (.tuple #[.string ⟨(textE false l e).toArray⟩, .int .i64 0]) ∧ Below w.heap.size w w' := by
  have hr : ∀ w, (binOp .lss 22 (.float .f64 v) (.float .f64 0)).run Tryz.prog w = .ok (.bool false) w := fun w => by
    rw [run_flss, hneg]
  have hx : textE false l e = ([] : List UInt8) ++ (l.take K) ++ (46 :: l.drop K) := by
    unfold textE
    rw [show (if (false : Bool) = true then [45] else []) = (([] : List UInt8) : List UInt8) from rfl]
    rw [if_neg (by omega), if_neg (by omega), if_neg (by omega), show e.toNat = K by omega]
    try simp
  have Hx := Lib.hid hx
  clear hx
  subst hc
  have g1 : ¬ (K : Int) < -5 := by omega
  have g2 : ¬ 21 < (K : Int) := by omega
  have g3 : ¬ (K : Int) ≤ 0 := by omega
  have g4 : ¬ (l.length : Int) ≤ (K : Int) := by omega
  go_enter Tryz.func48, Tryz.ntmps48
  go_wp2_with fail
  refine (hdc _ hW).mono ?_
  rintro o w1 ⟨rfl, hb1⟩
  go_wp2_with fail
  go_region
  go_wp2_with fail
  go_ret2
  refine text_ret ?_ (hb1.drew)
  rw [Hx.out]
  apply ByteArray.ext
  apply Array.ext'
  simp
  try rw [List.take_of_length_le (by simp)]
theorem text_tiny1_p {H L : Nat → Nat} {v : Nat} {l : List UInt8} {e : Int} (h3 : l.length ≤ 20) (h4 : 1 ≤ l.length) (hlo : -449 ≤ e) (hhi : e ≤ 451) (hneg : (FloatKind.f64.format.order v 0 == some .lt) = false) (g0 : e < -5) (h1 : l.length = 1)
    (w : World) (hW : NumW w H L) (hdc : DigCall H L v l e) :
    Calls Tryz.prog 48 #[.float .f64 v] w fun o w' => o = .returned (.tuple #[.string ⟨(textE false l e).toArray⟩, .int .i64 0]) ∧ Below w.heap.size w w' := by
  have hr : ∀ w, (binOp .lss 22 (.float .f64 v) (.float .f64 0)).run Tryz.prog w = .ok (.bool false) w := fun w => by
    rw [run_flss, hneg]
  have hx : textE false l e = ([] : List UInt8) ++ (l.take 1) ++ (69 :: Lib.itoa (e - 1)) := by
    unfold textE
    rw [show (if (false : Bool) = true then [45] else []) = (([] : List UInt8) : List UInt8) from rfl]
    rw [if_pos (by omega), if_neg (by omega)]
    try simp
  have Hx := Lib.hid hx
  clear hx
  have g5 : (l.length : Int) = 1 := by omega
  have g6 : l.drop 1 = [] := List.drop_eq_nil_of_le (by omega)
  go_enter Tryz.func48, Tryz.ntmps48
  go_wp2_with fail
  refine (hdc _ hW).mono ?_
  rintro o w1 ⟨rfl, hb1⟩
  go_wp2_with fail
  refine (Tryz.strconv_Itoa (e - 1) (by omega) (by omega) _ (hW.tabs.ten _ hb1)).mono ?_
  rintro o w2 ⟨rfl, k2, os2, rfl⟩
  have hil := Lib.itoa_length_le (e - 1) (by omega) (by omega)
  generalize hit : Lib.itoa (e - 1) = it at hil Hx ⊢
  clear hit
  have hb2 : Below w.heap.size w (grow (w1.drewN k2) os2) := hb1.trans (Lib.below_grow _ _ hb1.size _ _)
  generalize grow (w1.drewN k2) os2 = w2 at hb2 ⊢
  go_wp2_with fail
  go_ret2
  refine text_ret ?_ (hb2)
  rw [Hx.out]
  apply ByteArray.ext
  apply Array.ext'
  simp
  try rw [List.take_of_length_le (by simp)]
theorem text_tinyN_p {H L : Nat → Nat} {v : Nat} {l : List UInt8} {e : Int} (h3 : l.length ≤ 20) (h4 : 1 ≤ l.length) (hlo : -449 ≤ e) (hhi : e ≤ 451) (hneg : (FloatKind.f64.format.order v 0 == some .lt) = false) (g0 : e < -5) (h1 : 1 < l.length)
    (w : World) (hW : NumW w H L) (hdc : DigCall H L v l e) :
    Calls Tryz.prog 48 #[.float .f64 v] w fun o w' => o = .returned (.tuple #[.string ⟨(textE false l e).toArray⟩, .int .i64 0]) ∧ Below w.heap.size w w' := by
  have hr : ∀ w, (binOp .lss 22 (.float .f64 v) (.float .f64 0)).run Tryz.prog w = .ok (.bool false) w := fun w => by
    rw [run_flss, hneg]
  have hx : textE false l e = ([] : List UInt8) ++ (l.take 1) ++ (46 :: l.drop 1) ++ (69 :: Lib.itoa (e - 1)) := by
    unfold textE
    rw [show (if (false : Bool) = true then [45] else []) = (([] : List UInt8) : List UInt8) from rfl]
    rw [if_pos (by omega), if_pos (by omega)]
    try simp
  have Hx := Lib.hid hx
  clear hx
  have g5 : (1 : Int) < (l.length : Int) := by omega
  go_enter Tryz.func48, Tryz.ntmps48
  go_wp2_with fail
  refine (hdc _ hW).mono ?_
  rintro o w1 ⟨rfl, hb1⟩
  go_wp2_with fail
  refine (Tryz.strconv_Itoa (e - 1) (by omega) (by omega) _ (hW.tabs.ten _ hb1)).mono ?_
  rintro o w2 ⟨rfl, k2, os2, rfl⟩
  have hil := Lib.itoa_length_le (e - 1) (by omega) (by omega)
  generalize hit : Lib.itoa (e - 1) = it at hil Hx ⊢
  clear hit
  have hb2 : Below w.heap.size w (grow (w1.drewN k2) os2) := hb1.trans (Lib.below_grow _ _ hb1.size _ _)
  generalize grow (w1.drewN k2) os2 = w2 at hb2 ⊢
  go_wp2_with fail
  go_ret2
  refine text_ret ?_ (hb2)
  rw [Hx.out]
  apply ByteArray.ext
  apply Array.ext'
  simp
  try rw [List.take_of_length_le (by simp)]
theorem text_huge1_p {H L : Nat → Nat} {v : Nat} {l : List UInt8} {e : Int} (h3 : l.length ≤ 20) (h4 : 1 ≤ l.length) (hlo : -449 ≤ e) (hhi : e ≤ 451) (hneg : (FloatKind.f64.format.order v 0 == some .lt) = false) (g0 : 21 < e) (h1 : l.length = 1)
    (w : World) (hW : NumW w H L) (hdc : DigCall H L v l e) :
    Calls Tryz.prog 48 #[.float .f64 v] w fun o w' => o = .returned (.tuple #[.string ⟨(textE false l e).toArray⟩, .int .i64 0]) ∧ Below w.heap.size w w' := by
  have hr : ∀ w, (binOp .lss 22 (.float .f64 v) (.float .f64 0)).run Tryz.prog w = .ok (.bool false) w := fun w => by
    rw [run_flss, hneg]
  have hx : textE false l e = ([] : List UInt8) ++ (l.take 1) ++ (69 :: Lib.itoa (e - 1)) := by
    unfold textE
    rw [show (if (false : Bool) = true then [45] else []) = (([] : List UInt8) : List UInt8) from rfl]
    rw [if_pos (by omega), if_neg (by omega)]
    try simp
  have Hx := Lib.hid hx
  clear hx
  have g1 : ¬ e < -5 := by omega
  have g5 : (l.length : Int) = 1 := by omega
  have g6 : l.drop 1 = [] := List.drop_eq_nil_of_le (by omega)
  go_enter Tryz.func48, Tryz.ntmps48
  go_wp2_with fail
  refine (hdc _ hW).mono ?_
  rintro o w1 ⟨rfl, hb1⟩
  go_wp2_with fail
  refine (Tryz.strconv_Itoa (e - 1) (by omega) (by omega) _ (hW.tabs.ten _ hb1)).mono ?_
  rintro o w2 ⟨rfl, k2, os2, rfl⟩
  have hil := Lib.itoa_length_le (e - 1) (by omega) (by omega)
  generalize hit : Lib.itoa (e - 1) = it at hil Hx ⊢
  clear hit
  have hb2 : Below w.heap.size w (grow (w1.drewN k2) os2) := hb1.trans (Lib.below_grow _ _ hb1.size _ _)
  generalize grow (w1.drewN k2) os2 = w2 at hb2 ⊢
  go_wp2_with fail
  go_ret2
  refine text_ret ?_ (hb2)
  rw [Hx.out]
  apply ByteArray.ext
  apply Array.ext'
  simp
  try rw [List.take_of_length_le (by simp)]
theorem text_hugeN_p {H L : Nat → Nat} {v : Nat} {l : List UInt8} {e : Int} (h3 : l.length ≤ 20) (h4 : 1 ≤ l.length) (hlo : -449 ≤ e) (hhi : e ≤ 451) (hneg : (FloatKind.f64.format.order v 0 == some .lt) = false) (g0 : 21 < e) (h1 : 1 < l.length)
    (w : World) (hW : NumW w H L) (hdc : DigCall H L v l e) :
    Calls Tryz.prog 48 #[.float .f64 v] w fun o w' => o = .returned (.tuple #[.string ⟨(textE false l e).toArray⟩, .int .i64 0]) ∧ Below w.heap.size w w' := by
  have hr : ∀ w, (binOp .lss 22 (.float .f64 v) (.float .f64 0)).run Tryz.prog w = .ok (.bool false) w := fun w => by
    rw [run_flss, hneg]
  have hx : textE false l e = ([] : List UInt8) ++ (l.take 1) ++ (46 :: l.drop 1) ++ (69 :: Lib.itoa (e - 1)) := by
    unfold textE
    rw [show (if (false : Bool) = true then [45] else []) = (([] : List UInt8) : List UInt8) from rfl]
    rw [if_pos (by omega), if_pos (by omega)]
    try simp
  have Hx := Lib.hid hx
  clear hx
  have g1 : ¬ e < -5 := by omega
  have g5 : (1 : Int) < (l.length : Int) := by omega
  go_enter Tryz.func48, Tryz.ntmps48
  go_wp2_with fail
  refine (hdc _ hW).mono ?_
  rintro o w1 ⟨rfl, hb1⟩
  go_wp2_with fail
  refine (Tryz.strconv_Itoa (e - 1) (by omega) (by omega) _ (hW.tabs.ten _ hb1)).mono ?_
  rintro o w2 ⟨rfl, k2, os2, rfl⟩
  have hil := Lib.itoa_length_le (e - 1) (by omega) (by omega)
  generalize hit : Lib.itoa (e - 1) = it at hil Hx ⊢
  clear hit
  have hb2 : Below w.heap.size w (grow (w1.drewN k2) os2) := hb1.trans (Lib.below_grow _ _ hb1.size _ _)
  generalize grow (w1.drewN k2) os2 = w2 at hb2 ⊢
  go_wp2_with fail
  go_ret2
  refine text_ret ?_ (hb2)
  rw [Hx.out]
  apply ByteArray.ext
  apply Array.ext'
  simp
  try rw [List.take_of_length_le (by simp)]
theorem text_small_n {H L : Nat → Nat} {v : Nat} {l : List UInt8} {e : Int} (h3 : l.length ≤ 20) (h4 : 1 ≤ l.length) (hlo : -449 ≤ e) (hhi : e ≤ 451) (hneg : (FloatKind.f64.format.order v 0 == some .lt) = true) (c : Nat) (hc : e = -(c : Int)) (hc5 : c ≤ 5)
    (w : World) (hW : NumW w H L) (hdc : DigCall H L v l e) :
    Calls Tryz.prog 48 #[.float .f64 v] w fun o w' => o = .returned (.tuple #[.string ⟨(textE true l e).toArray⟩, .int .i64 0]) ∧ Below w.heap.size w w' := by
  have hr : ∀ w, (binOp .lss 22 (.float .f64 v) (.float .f64 0)).run Tryz.prog w = .ok (.bool true) w := fun w => by
    rw [run_flss, hneg]
  have hx : textE true l e = [45] ++ ([48, 46]) ++ (Lib.repeatL [48] c) ++ (l) := by
    unfold textE
    rw [show (if (true : Bool) = true then [45] else []) = ([45] : List UInt8) from rfl]
    rw [if_neg (by omega), if_pos (by omega), show (-e).toNat = c by omega]
    simp
  have Hx := Lib.hid hx
  clear hx
  have g1 : ¬ e < -5 := by omega
  have g2 : ¬ 21 < e := by omega
  have g3 : e ≤ 0 := by omega
  have hnn : -e = (c : Int) := by omega
  have hrl : (Lib.repeatL [48] c).length = c := repeat_len c
  have Hc := Lib.hid hc
  clear hc
  go_enter Tryz.func48, Tryz.ntmps48
  go_wp2_with fail
  refine (hdc _ hW).mono ?_
  rintro o w1 ⟨rfl, hb1⟩
  go_wp2_with fail
  refine (Tryz.strings_Repeat ⟨#[48]⟩ c _ (by omega) (by rw [show (⟨#[48]⟩ : ByteArray).size = 1 from rfl]; omega)).mono ?_
  rintro o w2 ⟨rfl, hb2⟩
  go_wp2_with fail
  go_ret2
  refine text_ret ?_ (hb1.trans (hb2.mono hb1.size))
  rw [Hx.out]
  apply ByteArray.ext
  apply Array.ext'
  simp
  try rw [List.take_of_length_le (by simp)]
theorem text_big_n {H L : Nat → Nat} {v : Nat} {l : List UInt8} {e : Int} (h3 : l.length ≤ 20) (h4 : 1 ≤ l.length) (hlo : -449 ≤ e) (hhi : e ≤ 451) (hneg : (FloatKind.f64.format.order v 0 == some .lt) = true) (c : Nat) (hc : e - (l.length : Int) = (c : Int)) (hc21 : e ≤ 21)
    (w : World) (hW : NumW w H L) (hdc : DigCall H L v l e) :
    Calls Tryz.prog 48 #[.float .f64 v] w fun o w' => o = .returned (.tuple #[.string ⟨(textE true l e).toArray⟩, .int .i64 0]) ∧ Below w.heap.size w w' := by
  have hr : ∀ w, (binOp .lss 22 (.float .f64 v) (.float .f64 0)).run Tryz.prog w = .ok (.bool true) w := fun w => by
    rw [run_flss, hneg]
  have hx : textE true l e = [45] ++ (l) ++ (Lib.repeatL [48] c) := by
    unfold textE
    rw [show (if (true : Bool) = true then [45] else []) = ([45] : List UInt8) from rfl]
    rw [if_neg (by omega), if_neg (by omega), if_pos (by omega), show (e - (l.length : Int)).toNat = c by omega]
    try simp
  have Hx := Lib.hid hx
  clear hx
  have g1 : ¬ e < -5 := by omega
  have g2 : ¬ 21 < e := by omega
  have g3 : ¬ e ≤ 0 := by omega
  have g4 : (l.length : Int) ≤ e := by omega
  have hrl : (Lib.repeatL [48] c).length = c := repeat_len c
  go_enter Tryz.func48, Tryz.ntmps48
  go_wp2_with fail
  refine (hdc _ hW).mono ?_
  rintro o w1 ⟨rfl, hb1⟩
  go_wp2_with fail
  refine (Tryz.strings_Repeat ⟨#[48]⟩ c _ (by omega) (by rw [show (⟨#[48]⟩ : ByteArray).size = 1 from rfl]; omega)).mono ?_
  rintro o w2 ⟨rfl, hb2⟩
  go_wp2_with fail
  go_ret2
  refine text_ret ?_ (hb1.trans (hb2.mono hb1.size))
  rw [Hx.out]
  apply ByteArray.ext
  apply Array.ext'
  simp
  try rw [List.take_of_length_le (by simp)]
theorem text_mid_n {H L : Nat → Nat} {v : Nat} {l : List UInt8} {e : Int} (h3 : l.length ≤ 20) (h4 : 1 ≤ l.length) (hlo : -449 ≤ e) (hhi : e ≤ 451) (hneg : (FloatKind.f64.format.order v 0 == some .lt) = true) (K : Nat) (hc : e = (K : Int)) (hK : 0 < K) (hKl : K < l.length)
    (w : World) (hW : NumW w H L) (hdc : DigCall H L v l e) :
    Calls Tryz.prog 48 #[.float .f64 v] w fun o w' => o = .returned (.tuple #[.string ⟨(textE true l e).toArray⟩, .int .i64 0]) ∧ Below w.heap.size w w' := by
  have hr : ∀ w, (binOp .lss 22 (.float .f64 v) (.float .f64 0)).run Tryz.prog w = .ok (.bool true) w := fun w => by
    rw [run_flss, hneg]
  have hx : textE true l e = [45] ++ (l.take K) ++ (46 :: l.drop K) := by
    unfold textE
    rw [show (if (true : Bool) = true then [45] else []) = ([45] : List UInt8) from rfl]
    rw [if_neg (by omega), if_neg (by omega), if_neg (by omega), show e.toNat = K by omega]
    try simp
  have Hx := Lib.hid hx
  clear hx
  subst hc
  have g1 : ¬ (K : Int) < -5 := by omega
  have g2 : ¬ 21 < (K : Int) := by omega
  have g3 : ¬ (K : Int) ≤ 0 := by omega
  have g4 : ¬ (l.length : Int) ≤ (K : Int) := by omega
  go_enter Tryz.func48, Tryz.ntmps48
  go_wp2_with fail
  refine (hdc _ hW).mono ?_
  rintro o w1 ⟨rfl, hb1⟩
  go_wp2_with fail
  go_region
  go_wp2_with fail
  go_ret2
  refine text_ret ?_ (hb1.drew)
  rw [Hx.out]
  apply ByteArray.ext
  apply Array.ext'
  simp
  try rw [List.take_of_length_le (by simp)]
theorem text_tiny1_n {H L : Nat → Nat} {v : Nat} {l : List UInt8} {e : Int} (h3 : l.length ≤ 20) (h4 : 1 ≤ l.length) (hlo : -449 ≤ e) (hhi : e ≤ 451) (hneg : (FloatKind.f64.format.order v 0 == some .lt) = true) (g0 : e < -5) (h1 : l.length = 1)
    (w : World) (hW : NumW w H L) (hdc : DigCall H L v l e) :
    Calls Tryz.prog 48 #[.float .f64 v] w fun o w' => o = .returned (.tuple #[.string ⟨(textE true l e).toArray⟩, .int .i64 0]) ∧ Below w.heap.size w w' := by
  have hr : ∀ w, (binOp .lss 22 (.float .f64 v) (.float .f64 0)).run Tryz.prog w = .ok (.bool true) w := fun w => by
    rw [run_flss, hneg]
  have hx : textE true l e = [45] ++ (l.take 1) ++ (69 :: Lib.itoa (e - 1)) := by
    unfold textE
    rw [show (if (true : Bool) = true then [45] else []) = ([45] : List UInt8) from rfl]
    rw [if_pos (by omega), if_neg (by omega)]
    try simp
  have Hx := Lib.hid hx
  clear hx
  have g5 : (l.length : Int) = 1 := by omega
  have g6 : l.drop 1 = [] := List.drop_eq_nil_of_le (by omega)
  go_enter Tryz.func48, Tryz.ntmps48
  go_wp2_with fail
  refine (hdc _ hW).mono ?_
  rintro o w1 ⟨rfl, hb1⟩
  go_wp2_with fail
  refine (Tryz.strconv_Itoa (e - 1) (by omega) (by omega) _ (hW.tabs.ten _ hb1)).mono ?_
  rintro o w2 ⟨rfl, k2, os2, rfl⟩
  have hil := Lib.itoa_length_le (e - 1) (by omega) (by omega)
  generalize hit : Lib.itoa (e - 1) = it at hil Hx ⊢
  clear hit
  have hb2 : Below w.heap.size w (grow (w1.drewN k2) os2) := hb1.trans (Lib.below_grow _ _ hb1.size _ _)
  generalize grow (w1.drewN k2) os2 = w2 at hb2 ⊢
  go_wp2_with fail
  go_ret2
  refine text_ret ?_ (hb2)
  rw [Hx.out]
  apply ByteArray.ext
  apply Array.ext'
  simp
  try rw [List.take_of_length_le (by simp)]
theorem text_tinyN_n {H L : Nat → Nat} {v : Nat} {l : List UInt8} {e : Int} (h3 : l.length ≤ 20) (h4 : 1 ≤ l.length) (hlo : -449 ≤ e) (hhi : e ≤ 451) (hneg : (FloatKind.f64.format.order v 0 == some .lt) = true) (g0 : e < -5) (h1 : 1 < l.length)
    (w : World) (hW : NumW w H L) (hdc : DigCall H L v l e) :
    Calls Tryz.prog 48 #[.float .f64 v] w fun o w' => o = .returned (.tuple #[.string ⟨(textE true l e).toArray⟩, .int .i64 0]) ∧ Below w.heap.size w w' := by
  have hr : ∀ w, (binOp .lss 22 (.float .f64 v) (.float .f64 0)).run Tryz.prog w = .ok (.bool true) w := fun w => by
    rw [run_flss, hneg]
  have hx : textE true l e = [45] ++ (l.take 1) ++ (46 :: l.drop 1) ++ (69 :: Lib.itoa (e - 1)) := by
    unfold textE
    rw [show (if (true : Bool) = true then [45] else []) = ([45] : List UInt8) from rfl]
    rw [if_pos (by omega), if_pos (by omega)]
    try simp
  have Hx := Lib.hid hx
  clear hx
  have g5 : (1 : Int) < (l.length : Int) := by omega
  go_enter Tryz.func48, Tryz.ntmps48
  go_wp2_with fail
  refine (hdc _ hW).mono ?_
  rintro o w1 ⟨rfl, hb1⟩
  go_wp2_with fail
  refine (Tryz.strconv_Itoa (e - 1) (by omega) (by omega) _ (hW.tabs.ten _ hb1)).mono ?_
  rintro o w2 ⟨rfl, k2, os2, rfl⟩
  have hil := Lib.itoa_length_le (e - 1) (by omega) (by omega)
  generalize hit : Lib.itoa (e - 1) = it at hil Hx ⊢
  clear hit
  have hb2 : Below w.heap.size w (grow (w1.drewN k2) os2) := hb1.trans (Lib.below_grow _ _ hb1.size _ _)
  generalize grow (w1.drewN k2) os2 = w2 at hb2 ⊢
  go_wp2_with fail
  go_ret2
  refine text_ret ?_ (hb2)
  rw [Hx.out]
  apply ByteArray.ext
  apply Array.ext'
  simp
  try rw [List.take_of_length_le (by simp)]
theorem text_huge1_n {H L : Nat → Nat} {v : Nat} {l : List UInt8} {e : Int} (h3 : l.length ≤ 20) (h4 : 1 ≤ l.length) (hlo : -449 ≤ e) (hhi : e ≤ 451) (hneg : (FloatKind.f64.format.order v 0 == some .lt) = true) (g0 : 21 < e) (h1 : l.length = 1)
    (w : World) (hW : NumW w H L) (hdc : DigCall H L v l e) :
    Calls Tryz.prog 48 #[.float .f64 v] w fun o w' => o = .returned (.tuple #[.string ⟨(textE true l e).toArray⟩, .int .i64 0]) ∧ Below w.heap.size w w' := by
  have hr : ∀ w, (binOp .lss 22 (.float .f64 v) (.float .f64 0)).run Tryz.prog w = .ok (.bool true) w := fun w => by
    rw [run_flss, hneg]
  have hx : textE true l e = [45] ++ (l.take 1) ++ (69 :: Lib.itoa (e - 1)) := by
    unfold textE
    rw [show (if (true : Bool) = true then [45] else []) = ([45] : List UInt8) from rfl]
    rw [if_pos (by omega), if_neg (by omega)]
    try simp
  have Hx := Lib.hid hx
  clear hx
  have g1 : ¬ e < -5 := by omega
  have g5 : (l.length : Int) = 1 := by omega
  have g6 : l.drop 1 = [] := List.drop_eq_nil_of_le (by omega)
  go_enter Tryz.func48, Tryz.ntmps48
  go_wp2_with fail
  refine (hdc _ hW).mono ?_
  rintro o w1 ⟨rfl, hb1⟩
  go_wp2_with fail
  refine (Tryz.strconv_Itoa (e - 1) (by omega) (by omega) _ (hW.tabs.ten _ hb1)).mono ?_
  rintro o w2 ⟨rfl, k2, os2, rfl⟩
  have hil := Lib.itoa_length_le (e - 1) (by omega) (by omega)
  generalize hit : Lib.itoa (e - 1) = it at hil Hx ⊢
  clear hit
  have hb2 : Below w.heap.size w (grow (w1.drewN k2) os2) := hb1.trans (Lib.below_grow _ _ hb1.size _ _)
  generalize grow (w1.drewN k2) os2 = w2 at hb2 ⊢
  go_wp2_with fail
  go_ret2
  refine text_ret ?_ (hb2)
  rw [Hx.out]
  apply ByteArray.ext
  apply Array.ext'
  simp
  try rw [List.take_of_length_le (by simp)]
theorem text_hugeN_n {H L : Nat → Nat} {v : Nat} {l : List UInt8} {e : Int} (h3 : l.length ≤ 20) (h4 : 1 ≤ l.length) (hlo : -449 ≤ e) (hhi : e ≤ 451) (hneg : (FloatKind.f64.format.order v 0 == some .lt) = true) (g0 : 21 < e) (h1 : 1 < l.length)
    (w : World) (hW : NumW w H L) (hdc : DigCall H L v l e) :
    Calls Tryz.prog 48 #[.float .f64 v] w fun o w' => o = .returned (.tuple #[.string ⟨(textE true l e).toArray⟩, .int .i64 0]) ∧ Below w.heap.size w w' := by
  have hr : ∀ w, (binOp .lss 22 (.float .f64 v) (.float .f64 0)).run Tryz.prog w = .ok (.bool true) w := fun w => by
    rw [run_flss, hneg]
  have hx : textE true l e = [45] ++ (l.take 1) ++ (46 :: l.drop 1) ++ (69 :: Lib.itoa (e - 1)) := by
    unfold textE
    rw [show (if (true : Bool) = true then [45] else []) = ([45] : List UInt8) from rfl]
    rw [if_pos (by omega), if_pos (by omega)]
    try simp
  have Hx := Lib.hid hx
  clear hx
  have g1 : ¬ e < -5 := by omega
  have g5 : (1 : Int) < (l.length : Int) := by omega
  go_enter Tryz.func48, Tryz.ntmps48
  go_wp2_with fail
  refine (hdc _ hW).mono ?_
  rintro o w1 ⟨rfl, hb1⟩
  go_wp2_with fail
  refine (Tryz.strconv_Itoa (e - 1) (by omega) (by omega) _ (hW.tabs.ten _ hb1)).mono ?_
  rintro o w2 ⟨rfl, k2, os2, rfl⟩
  have hil := Lib.itoa_length_le (e - 1) (by omega) (by omega)
  generalize hit : Lib.itoa (e - 1) = it at hil Hx ⊢
  clear hit
  have hb2 : Below w.heap.size w (grow (w1.drewN k2) os2) := hb1.trans (Lib.below_grow _ _ hb1.size _ _)
  generalize grow (w1.drewN k2) os2 = w2 at hb2 ⊢
  go_wp2_with fail
  go_ret2
  refine text_ret ?_ (hb2)
  rw [Hx.out]
  apply ByteArray.ext
  apply Array.ext'
  simp
  try rw [List.take_of_length_le (by simp)]
theorem text_all {H L : Nat → Nat} {v : Nat} {l : List UInt8} {e : Int} {neg : Bool} (h3 : l.length ≤ 20) (h4 : 1 ≤ l.length) (hlo : -449 ≤ e) (hhi : e ≤ 451) (hneg : (FloatKind.f64.format.order v 0 == some .lt) = neg)
    (w : World) (hW : NumW w H L) (hdc : DigCall H L v l e) :
    Calls Tryz.prog 48 #[.float .f64 v] w fun o w' => o = .returned (.tuple #[.string ⟨(textE neg l e).toArray⟩, .int .i64 0]) ∧ Below w.heap.size w w' := by
  rcases Int.lt_or_le e (-5) with a1 | a1
  · rcases Nat.lt_or_ge 1 l.length with b | b
    · cases neg
      · exact text_tinyN_p h3 h4 hlo hhi hneg a1 b w hW hdc
      · exact text_tinyN_n h3 h4 hlo hhi hneg a1 b w hW hdc
    · cases neg
      · exact text_tiny1_p h3 h4 hlo hhi hneg a1 (by omega) w hW hdc
      · exact text_tiny1_n h3 h4 hlo hhi hneg a1 (by omega) w hW hdc
  rcases Int.lt_or_le 21 e with a2 | a2
  · rcases Nat.lt_or_ge 1 l.length with b | b
    · cases neg
      · exact text_hugeN_p h3 h4 hlo hhi hneg a2 b w hW hdc
      · exact text_hugeN_n h3 h4 hlo hhi hneg a2 b w hW hdc
    · cases neg
      · exact text_huge1_p h3 h4 hlo hhi hneg a2 (by omega) w hW hdc
      · exact text_huge1_n h3 h4 hlo hhi hneg a2 (by omega) w hW hdc
  rcases Int.lt_or_le 0 e with a3 | a3
  · rcases Int.lt_or_le e (l.length : Int) with a4 | a4
    · cases neg
      · exact text_mid_p h3 h4 hlo hhi hneg e.toNat (by omega) (by omega) (by omega) w hW hdc
      · exact text_mid_n h3 h4 hlo hhi hneg e.toNat (by omega) (by omega) (by omega) w hW hdc
    · cases neg
      · exact text_big_p h3 h4 hlo hhi hneg (e - l.length).toNat (by omega) (by omega) w hW hdc
      · exact text_big_n h3 h4 hlo hhi hneg (e - l.length).toNat (by omega) (by omega) w hW hdc
  · cases neg
    · exact text_small_p h3 h4 hlo hhi hneg (-e).toNat (by omega) (by omega) w hW hdc
    · exact text_small_n h3 h4 hlo hhi hneg (-e).toNat (by omega) (by omega) w hW hdc
open Go Go.RowKit Go.Sort
set_option maxRecDepth 100000
theorem repeat_rep : ∀ c, Lib.repeatL [48] c = List.replicate c 48
  | 0 => rfl
  | c + 1 => by
    show [48] ++ Lib.repeatL [48] c = _
    rw [repeat_rep c, List.replicate_succ]
    rfl
theorem noughts_call (c : Nat) (hc : c ≤ 1000) (w : World) :
    Calls Tryz.prog 92 #[.int .i64 c] w fun e w' => e = .returned (.string ⟨(Lib.repeatL [48] c).toArray⟩) ∧ w' = w := by
  rw [repeat_rep]
  go_enter Tryz.func92, Tryz.ntmps92
  go_wp2_with fail
  go_loop [3, 4] (fun va vn => ∃ i : Nat, va = .string ⟨(List.replicate i 48).toArray⟩ ∧ vn = .int .i64 i ∧ i ≤ c) (fun va vn => c - (intOf vn).toNat)
  case atStart => exact ⟨0, rfl, rfl, Nat.zero_le _⟩
  case round =>
    obtain ⟨i, rfl, rfl, hi⟩ := hrel
    have hsz : (⟨(List.replicate i 48).toArray⟩ : ByteArray).size = i := by simp [ByteArray.size]
    rcases Nat.lt_or_ge i c with h | h
    · go_wp2_with fail
      refine ⟨⟨i + 1, ?_, rfl, by omega⟩, by simp only [intOf]; omega⟩
      rw [List.replicate_succ']
      congr 1
    · have : i = c := by omega
      subst this
      go_wp2_with fail
      go_ret
      exact ⟨rfl, rfl⟩
open Go Go.RowKit Go.Sort
set_option maxRecDepth 100000
def DigRef (H L : Nat → Nat) (v : Nat) (l : List UInt8) (e : Int) : Prop := ∀ w, NumW w H L → Calls Tryz.prog 91 #[.float .f64 v] w fun o w' => o = .returned (.tuple #[.string ⟨l.toArray⟩, .int .i64 e, .int .i64 0]) ∧ Below w.heap.size w w'
theorem rtext_small_p {H L : Nat → Nat} {v : Nat} {l : List UInt8} {e : Int} (h3 : l.length ≤ 20) (h4 : 1 ≤ l.length) (hlo : -449 ≤ e) (hhi : e ≤ 451) (hneg : (FloatKind.f64.format.order v 0 == some .lt) = false) (c : Nat) (hc : e = -(c : Int)) (hc5 : c ≤ 5)
    (w : World) (hW : NumW w H L) (hdc : DigRef H L v l e) :
    Calls Tryz.prog 54 #[.float .f64 v] w fun o w' => o = .returned (.tuple #[.string ⟨(textE false l e).toArray⟩, .int .i64 0]) ∧ Below w.heap.size w w' := by
  have hr : ∀ w, (binOp .lss 22 (.float .f64 v) (.float .f64 0)).run Tryz.prog w = .ok (.bool false) w := fun w => by
    rw [run_flss, hneg]
  have hx : textE false l e = ([] : List UInt8) ++ ([48, 46]) ++ (Lib.repeatL [48] c) ++ (l) := by
    unfold textE
    rw [show (if (false : Bool) = true then [45] else []) = (([] : List UInt8) : List UInt8) from rfl]
    rw [if_neg (by omega), if_pos (by omega), show (-e).toNat = c by omega]
    simp
  have Hx := Lib.hid hx
  clear hx
  have g1 : -5 ≤ e := by omega
  have g2 : ¬ 1 ≤ e := by omega
  have g3 : e ≤ 0 := by omega
  have hnn : -e = (c : Int) := by omega
  have hrl : (Lib.repeatL [48] c).length = c := repeat_len c
  have Hc := Lib.hid hc
  clear hc
  go_enter Tryz.func54, Tryz.ntmps54
  go_wp2_with fail
  refine (hdc _ hW).mono ?_
  rintro o w1 ⟨rfl, hb1⟩
  go_wp2_with fail
  refine (noughts_call c (by omega) _).mono ?_
  rintro o w2 ⟨rfl, rfl⟩
  go_wp2_with fail
  go_ret2
  refine text_ret ?_ (hb1)
  rw [Hx.out]
  apply ByteArray.ext
  apply Array.ext'
  simp
  try rw [List.take_of_length_le (by simp)]
theorem rtext_big_p {H L : Nat → Nat} {v : Nat} {l : List UInt8} {e : Int} (h3 : l.length ≤ 20) (h4 : 1 ≤ l.length) (hlo : -449 ≤ e) (hhi : e ≤ 451) (hneg : (FloatKind.f64.format.order v 0 == some .lt) = false) (c : Nat) (hc : e - (l.length : Int) = (c : Int)) (hc21 : e ≤ 21)
    (w : World) (hW : NumW w H L) (hdc : DigRef H L v l e) :
    Calls Tryz.prog 54 #[.float .f64 v] w fun o w' => o = .returned (.tuple #[.string ⟨(textE false l e).toArray⟩, .int .i64 0]) ∧ Below w.heap.size w w' := by
  have hr : ∀ w, (binOp .lss 22 (.float .f64 v) (.float .f64 0)).run Tryz.prog w = .ok (.bool false) w := fun w => by
    rw [run_flss, hneg]
  have hx : textE false l e = ([] : List UInt8) ++ (l) ++ (Lib.repeatL [48] c) := by
    unfold textE
    rw [show (if (false : Bool) = true then [45] else []) = (([] : List UInt8) : List UInt8) from rfl]
    rw [if_neg (by omega), if_neg (by omega), if_pos (by omega), show (e - (l.length : Int)).toNat = c by omega]
    try simp
  have Hx := Lib.hid hx
  clear hx
  have g1 : 1 ≤ e := by omega
  have g2 : e ≤ 21 := by omega
  have g4 : (l.length : Int) ≤ e := by omega
  have hrl : (Lib.repeatL [48] c).length = c := repeat_len c
  go_enter Tryz.func54, Tryz.ntmps54
  go_wp2_with fail
  refine (hdc _ hW).mono ?_
  rintro o w1 ⟨rfl, hb1⟩
  go_wp2_with fail
  refine (noughts_call c (by omega) _).mono ?_
  rintro o w2 ⟨rfl, rfl⟩
  go_wp2_with fail
  go_ret2
  refine text_ret ?_ (hb1)
  rw [Hx.out]
  apply ByteArray.ext
  apply Array.ext'
  simp
  try rw [List.take_of_length_le (by simp)]
theorem rtext_mid_p {H L : Nat → Nat} {v : Nat} {l : List UInt8} {e : Int} (h3 : l.length ≤ 20) (h4 : 1 ≤ l.length) (hlo : -449 ≤ e) (hhi : e ≤ 451) (hneg : (FloatKind.f64.format.order v 0 == some .lt) = false) (K : Nat) (hc : e = (K : Int)) (hK : 0 < K) (hKl : K < l.length)
    (w : World) (hW : NumW w H L) (hdc : DigRef H L v l e) :
    Calls Tryz.prog 54 #[.float .f64 v] w fun o w' => o = .returned (.tuple #[.string ⟨(textE false l e).toArray⟩, .int .i64 0]) ∧ Below w.heap.size w w' := by
  have hr : ∀ w, (binOp .lss 22 (.float .f64 v) (.float .f64 0)).run Tryz.prog w = .ok (.bool false) w := fun w => by
    rw [run_flss, hneg]
  have hx : textE false l e = ([] : List UInt8) ++ (l.take K) ++ (46 :: l.drop K) := by
    unfold textE
    rw [show (if (false : Bool) = true then [45] else []) = (([] : List UInt8) : List UInt8) from rfl]
    rw [if_neg (by omega), if_neg (by omega), if_neg (by omega), show e.toNat = K by omega]
    try simp
  have Hx := Lib.hid hx
  clear hx
  subst hc
  have g1 : 1 ≤ (K : Int) := by omega
  have g2 : (K : Int) ≤ 21 := by omega
  have g4 : ¬ (l.length : Int) ≤ (K : Int) := by omega
  go_enter Tryz.func54, Tryz.ntmps54
  go_wp2_with fail
  refine (hdc _ hW).mono ?_
  rintro o w1 ⟨rfl, hb1⟩
  go_wp2_with fail
  go_region
  go_wp2_with fail
  go_ret2
  refine text_ret ?_ (hb1.drew)
  rw [Hx.out]
  apply ByteArray.ext
  apply Array.ext'
  simp
  try rw [List.take_of_length_le (by simp)]
theorem rtext_tiny1_p {H L : Nat → Nat} {v : Nat} {l : List UInt8} {e : Int} (h3 : l.length ≤ 20) (h4 : 1 ≤ l.length) (hlo : -449 ≤ e) (hhi : e ≤ 451) (hneg : (FloatKind.f64.format.order v 0 == some .lt) = false) (g0 : e < -5) (h1 : l.length = 1)
    (w : World) (hW : NumW w H L) (hdc : DigRef H L v l e) :
    Calls Tryz.prog 54 #[.float .f64 v] w fun o w' => o = .returned (.tuple #[.string ⟨(textE false l e).toArray⟩, .int .i64 0]) ∧ Below w.heap.size w w' := by
  have hr : ∀ w, (binOp .lss 22 (.float .f64 v) (.float .f64 0)).run Tryz.prog w = .ok (.bool false) w := fun w => by
    rw [run_flss, hneg]
  have hx : textE false l e = ([] : List UInt8) ++ (l.take 1) ++ (69 :: Lib.itoa (e - 1)) := by
    unfold textE
    rw [show (if (false : Bool) = true then [45] else []) = (([] : List UInt8) : List UInt8) from rfl]
    rw [if_pos (by omega), if_neg (by omega)]
    try simp
  have Hx := Lib.hid hx
  clear hx
  have g1 : ¬ 1 ≤ e := by omega
  have g2 : ¬ -5 ≤ e := by omega
  have g5 : (l.length : Int) = 1 := by omega
  have g6 : l.drop 1 = [] := List.drop_eq_nil_of_le (by omega)
  go_enter Tryz.func54, Tryz.ntmps54
  go_wp2_with fail
  refine (hdc _ hW).mono ?_
  rintro o w1 ⟨rfl, hb1⟩
  go_wp2_with fail
  refine (Tryz.strconv_Itoa (e - 1) (by omega) (by omega) _ (hW.tabs.ten _ hb1)).mono ?_
  rintro o w2 ⟨rfl, k2, os2, rfl⟩
  have hil := Lib.itoa_length_le (e - 1) (by omega) (by omega)
  generalize hit : Lib.itoa (e - 1) = it at hil Hx ⊢
  clear hit
  have hb2 : Below w.heap.size w (grow (w1.drewN k2) os2) := hb1.trans (Lib.below_grow _ _ hb1.size _ _)
  generalize grow (w1.drewN k2) os2 = w2 at hb2 ⊢
  go_wp2_with fail
  go_ret2
  refine text_ret ?_ (hb2)
  rw [Hx.out]
  apply ByteArray.ext
  apply Array.ext'
  simp
  try rw [List.take_of_length_le (by simp)]
theorem rtext_tinyN_p {H L : Nat → Nat} {v : Nat} {l : List UInt8} {e : Int} (h3 : l.length ≤ 20) (h4 : 1 ≤ l.length) (hlo : -449 ≤ e) (hhi : e ≤ 451) (hneg : (FloatKind.f64.format.order v 0 == some .lt) = false) (g0 : e < -5) (h1 : 1 < l.length)
    (w : World) (hW : NumW w H L) (hdc : DigRef H L v l e) :
    Calls Tryz.prog 54 #[.float .f64 v] w fun o w' => o = .returned (.tuple #[.string ⟨(textE false l e).toArray⟩, .int .i64 0]) ∧ Below w.heap.size w w' := by
  have hr : ∀ w, (binOp .lss 22 (.float .f64 v) (.float .f64 0)).run Tryz.prog w = .ok (.bool false) w := fun w => by
    rw [run_flss, hneg]
  have hx : textE false l e = ([] : List UInt8) ++ (l.take 1) ++ (46 :: l.drop 1) ++ (69 :: Lib.itoa (e - 1)) := by
    unfold textE
    rw [show (if (false : Bool) = true then [45] else []) = (([] : List UInt8) : List UInt8) from rfl]
    rw [if_pos (by omega), if_pos (by omega)]
    try simp
  have Hx := Lib.hid hx
  clear hx
  have g1 : ¬ 1 ≤ e := by omega
  have g2 : ¬ -5 ≤ e := by omega
  have g5 : (1 : Int) < (l.length : Int) := by omega
  go_enter Tryz.func54, Tryz.ntmps54
  go_wp2_with fail
  refine (hdc _ hW).mono ?_
  rintro o w1 ⟨rfl, hb1⟩
  go_wp2_with fail
  refine (Tryz.strconv_Itoa (e - 1) (by omega) (by omega) _ (hW.tabs.ten _ hb1)).mono ?_
  rintro o w2 ⟨rfl, k2, os2, rfl⟩
  have hil := Lib.itoa_length_le (e - 1) (by omega) (by omega)
  generalize hit : Lib.itoa (e - 1) = it at hil Hx ⊢
  clear hit
  have hb2 : Below w.heap.size w (grow (w1.drewN k2) os2) := hb1.trans (Lib.below_grow _ _ hb1.size _ _)
  generalize grow (w1.drewN k2) os2 = w2 at hb2 ⊢
  go_wp2_with fail
  go_ret2
  refine text_ret ?_ (hb2)
  rw [Hx.out]
  apply ByteArray.ext
  apply Array.ext'
  simp
  try rw [List.take_of_length_le (by simp)]
theorem rtext_huge1_p {H L : Nat → Nat} {v : Nat} {l : List UInt8} {e : Int} (h3 : l.length ≤ 20) (h4 : 1 ≤ l.length) (hlo : -449 ≤ e) (hhi : e ≤ 451) (hneg : (FloatKind.f64.format.order v 0 == some .lt) = false) (g0 : 21 < e) (h1 : l.length = 1)
    (w : World) (hW : NumW w H L) (hdc : DigRef H L v l e) :
    Calls Tryz.prog 54 #[.float .f64 v] w fun o w' => o = .returned (.tuple #[.string ⟨(textE false l e).toArray⟩, .int .i64 0]) ∧ Below w.heap.size w w' := by
  have hr : ∀ w, (binOp .lss 22 (.float .f64 v) (.float .f64 0)).run Tryz.prog w = .ok (.bool false) w := fun w => by
    rw [run_flss, hneg]
  have hx : textE false l e = ([] : List UInt8) ++ (l.take 1) ++ (69 :: Lib.itoa (e - 1)) := by
    unfold textE
    rw [show (if (false : Bool) = true then [45] else []) = (([] : List UInt8) : List UInt8) from rfl]
    rw [if_pos (by omega), if_neg (by omega)]
    try simp
  have Hx := Lib.hid hx
  clear hx
  have g1 : 1 ≤ e := by omega
  have g2 : ¬ e ≤ 21 := by omega
  have g3 : -5 ≤ e := by omega
  have g4 : ¬ e ≤ 0 := by omega
  have g5 : (l.length : Int) = 1 := by omega
  have g6 : l.drop 1 = [] := List.drop_eq_nil_of_le (by omega)
  go_enter Tryz.func54, Tryz.ntmps54
  go_wp2_with fail
  refine (hdc _ hW).mono ?_
  rintro o w1 ⟨rfl, hb1⟩
  go_wp2_with fail
  refine (Tryz.strconv_Itoa (e - 1) (by omega) (by omega) _ (hW.tabs.ten _ hb1)).mono ?_
  rintro o w2 ⟨rfl, k2, os2, rfl⟩
  have hil := Lib.itoa_length_le (e - 1) (by omega) (by omega)
  generalize hit : Lib.itoa (e - 1) = it at hil Hx ⊢
  clear hit
  have hb2 : Below w.heap.size w (grow (w1.drewN k2) os2) := hb1.trans (Lib.below_grow _ _ hb1.size _ _)
  generalize grow (w1.drewN k2) os2 = w2 at hb2 ⊢
  go_wp2_with fail
  go_ret2
  refine text_ret ?_ (hb2)
  rw [Hx.out]
  apply ByteArray.ext
  apply Array.ext'
  simp
  try rw [List.take_of_length_le (by simp)]
theorem rtext_hugeN_p {H L : Nat → Nat} {v : Nat} {l : List UInt8} {e : Int} (h3 : l.length ≤ 20) (h4 : 1 ≤ l.length) (hlo : -449 ≤ e) (hhi : e ≤ 451) (hneg : (FloatKind.f64.format.order v 0 == some .lt) = false) (g0 : 21 < e) (h1 : 1 < l.length)
    (w : World) (hW : NumW w H L) (hdc : DigRef H L v l e) :
    Calls Tryz.prog 54 #[.float .f64 v] w fun o w' => o = .returned (.tuple #[.string ⟨(textE false l e).toArray⟩, .int .i64 0]) ∧ Below w.heap.size w w' := by
  have hr : ∀ w, (binOp .lss 22 (.float .f64 v) (.float .f64 0)).run Tryz.prog w = .ok (.bool false) w := fun w => by
    rw [run_flss, hneg]
  have hx : textE false l e = ([] : List UInt8) ++ (l.take 1) ++ (46 :: l.drop 1) ++ (69 :: Lib.itoa (e - 1)) := by
    unfold textE
    rw [show (if (false : Bool) = true then [45] else []) = (([] : List UInt8) : List UInt8) from rfl]
    rw [if_pos (by omega), if_pos (by omega)]
    try simp
  have Hx := Lib.hid hx
  clear hx
  have g1 : 1 ≤ e := by omega
  have g2 : ¬ e ≤ 21 := by omega
  have g3 : -5 ≤ e := by omega
  have g4 : ¬ e ≤ 0 := by omega
  have g5 : (1 : Int) < (l.length : Int) := by omega
  go_enter Tryz.func54, Tryz.ntmps54
  go_wp2_with fail
  refine (hdc _ hW).mono ?_
  rintro o w1 ⟨rfl, hb1⟩
  go_wp2_with fail
  refine (Tryz.strconv_Itoa (e - 1) (by omega) (by omega) _ (hW.tabs.ten _ hb1)).mono ?_
  rintro o w2 ⟨rfl, k2, os2, rfl⟩
  have hil := Lib.itoa_length_le (e - 1) (by omega) (by omega)
  generalize hit : Lib.itoa (e - 1) = it at hil Hx ⊢
  clear hit
  have hb2 : Below w.heap.size w (grow (w1.drewN k2) os2) := hb1.trans (Lib.below_grow _ _ hb1.size _ _)
  generalize grow (w1.drewN k2) os2 = w2 at hb2 ⊢
  go_wp2_with fail
  go_ret2
  refine text_ret ?_ (hb2)
  rw [Hx.out]
  apply ByteArray.ext
  apply Array.ext'
  simp
  try rw [List.take_of_length_le (by simp)]
theorem rtext_small_n {H L : Nat → Nat} {v : Nat} {l : List UInt8} {e : Int} (h3 : l.length ≤ 20) (h4 : 1 ≤ l.length) (hlo : -449 ≤ e) (hhi : e ≤ 451) (hneg : (FloatKind.f64.format.order v 0 == some .lt) = true) (c : Nat) (hc : e = -(c : Int)) (hc5 : c ≤ 5)
    (w : World) (hW : NumW w H L) (hdc : DigRef H L v l e) :
    Calls Tryz.prog 54 #[.float .f64 v] w fun o w' => o = .returned (.tuple #[.string ⟨(textE true l e).toArray⟩, .int .i64 0]) ∧ Below w.heap.size w w' := by
  have hr : ∀ w, (binOp .lss 22 (.float .f64 v) (.float .f64 0)).run Tryz.prog w = .ok (.bool true) w := fun w => by
    rw [run_flss, hneg]
  have hx : textE true l e = [45] ++ ([48, 46]) ++ (Lib.repeatL [48] c) ++ (l) := by
    unfold textE
    rw [show (if (true : Bool) = true then [45] else []) = ([45] : List UInt8) from rfl]
    rw [if_neg (by omega), if_pos (by omega), show (-e).toNat = c by omega]
    simp
  have Hx := Lib.hid hx
  clear hx
  have g1 : -5 ≤ e := by omega
  have g2 : ¬ 1 ≤ e := by omega
  have g3 : e ≤ 0 := by omega
  have hnn : -e = (c : Int) := by omega
  have hrl : (Lib.repeatL [48] c).length = c := repeat_len c
  have Hc := Lib.hid hc
  clear hc
  go_enter Tryz.func54, Tryz.ntmps54
  go_wp2_with fail
  refine (hdc _ hW).mono ?_
  rintro o w1 ⟨rfl, hb1⟩
  go_wp2_with fail
  refine (noughts_call c (by omega) _).mono ?_
  rintro o w2 ⟨rfl, rfl⟩
  go_wp2_with fail
  go_ret2
  refine text_ret ?_ (hb1)
  rw [Hx.out]
  apply ByteArray.ext
  apply Array.ext'
  simp
  try rw [List.take_of_length_le (by simp)]
theorem rtext_big_n {H L : Nat → Nat} {v : Nat} {l : List UInt8} {e : Int} (h3 : l.length ≤ 20) (h4 : 1 ≤ l.length) (hlo : -449 ≤ e) (hhi : e ≤ 451) (hneg : (FloatKind.f64.format.order v 0 == some .lt) = true) (c : Nat) (hc : e - (l.length : Int) = (c : Int)) (hc21 : e ≤ 21)
    (w : World) (hW : NumW w H L) (hdc : DigRef H L v l e) :
    Calls Tryz.prog 54 #[.float .f64 v] w fun o w' => o = .returned (.tuple #[.string ⟨(textE true l e).toArray⟩, .int .i64 0]) ∧ Below w.heap.size w w' := by
  have hr : ∀ w, (binOp .lss 22 (.float .f64 v) (.float .f64 0)).run Tryz.prog w = .ok (.bool true) w := fun w => by
    rw [run_flss, hneg]
  have hx : textE true l e = [45] ++ (l) ++ (Lib.repeatL [48] c) := by
    unfold textE
    rw [show (if (true : Bool) = true then [45] else []) = ([45] : List UInt8) from rfl]
    rw [if_neg (by omega), if_neg (by omega), if_pos (by omega), show (e - (l.length : Int)).toNat = c by omega]
    try simp
  have Hx := Lib.hid hx
  clear hx
  have g1 : 1 ≤ e := by omega
  have g2 : e ≤ 21 := by omega
  have g4 : (l.length : Int) ≤ e := by omega
  have hrl : (Lib.repeatL [48] c).length = c := repeat_len c
  go_enter Tryz.func54, Tryz.ntmps54
  go_wp2_with fail
  refine (hdc _ hW).mono ?_
  rintro o w1 ⟨rfl, hb1⟩
  go_wp2_with fail
  refine (noughts_call c (by omega) _).mono ?_
  rintro o w2 ⟨rfl, rfl⟩
  go_wp2_with fail
  go_ret2
  refine text_ret ?_ (hb1)
  rw [Hx.out]
  apply ByteArray.ext
  apply Array.ext'
  simp
  try rw [List.take_of_length_le (by simp)]
theorem rtext_mid_n {H L : Nat → Nat} {v : Nat} {l : List UInt8} {e : Int} (h3 : l.length ≤ 20) (h4 : 1 ≤ l.length) (hlo : -449 ≤ e) (hhi : e ≤ 451) (hneg : (FloatKind.f64.format.order v 0 == some .lt) = true) (K : Nat) (hc : e = (K : Int)) (hK : 0 < K) (hKl : K < l.length)
    (w : World) (hW : NumW w H L) (hdc : DigRef H L v l e) :
    Calls Tryz.prog 54 #[.float .f64 v] w fun o w' => o = .returned (.tuple #[.string ⟨(textE true l e).toArray⟩, .int .i64 0]) ∧ Below w.heap.size w w' := by
  have hr : ∀ w, (binOp .lss 22 (.float .f64 v) (.float .f64 0)).run Tryz.prog w = .ok (.bool true) w := fun w => by
    rw [run_flss, hneg]
  have hx : textE true l e = [45] ++ (l.take K) ++ (46 :: l.drop K) := by
    unfold textE
    rw [show (if (true : Bool) = true then [45] else []) = ([45] : List UInt8) from rfl]
    rw [if_neg (by omega), if_neg (by omega), if_neg (by omega), show e.toNat = K by omega]
    try simp
  have Hx := Lib.hid hx
  clear hx
  subst hc
  have g1 : 1 ≤ (K : Int) := by omega
  have g2 : (K : Int) ≤ 21 := by omega
  have g4 : ¬ (l.length : Int) ≤ (K : Int) := by omega
  go_enter Tryz.func54, Tryz.ntmps54
  go_wp2_with fail
  refine (hdc _ hW).mono ?_
  rintro o w1 ⟨rfl, hb1⟩
  go_wp2_with fail
  go_region
  go_wp2_with fail
  go_ret2
  refine text_ret ?_ (hb1.drew)
  rw [Hx.out]
  apply ByteArray.ext
  apply Array.ext'
  simp
  try rw [List.take_of_length_le (by simp)]
theorem rtext_tiny1_n {H L : Nat → Nat} {v : Nat} {l : List UInt8} {e : Int} (h3 : l.length ≤ 20) (h4 : 1 ≤ l.length) (hlo : -449 ≤ e) (hhi : e ≤ 451) (hneg : (FloatKind.f64.format.order v 0 == some .lt) = true) (g0 : e < -5) (h1 : l.length = 1)
    (w : World) (hW : NumW w H L) (hdc : DigRef H L v l e) :
    Calls Tryz.prog 54 #[.float .f64 v] w fun o w' => o = .returned (.tuple #[.string ⟨(textE true l e).toArray⟩, .int .i64 0]) ∧ Below w.heap.size w w' := by
  have hr : ∀ w, (binOp .lss 22 (.float .f64 v) (.float .f64 0)).run Tryz.prog w = .ok (.bool true) w := fun w => by
    rw [run_flss, hneg]
  have hx : textE true l e = [45] ++ (l.take 1) ++ (69 :: Lib.itoa (e - 1)) := by
    unfold textE
    rw [show (if (true : Bool) = true then [45] else []) = ([45] : List UInt8) from rfl]
    rw [if_pos (by omega), if_neg (by omega)]
    try simp
  have Hx := Lib.hid hx
  clear hx
  have g1 : ¬ 1 ≤ e := by omega
  have g2 : ¬ -5 ≤ e := by omega
  have g5 : (l.length : Int) = 1 := by omega
  have g6 : l.drop 1 = [] := List.drop_eq_nil_of_le (by omega)
  go_enter Tryz.func54, Tryz.ntmps54
  go_wp2_with fail
  refine (hdc _ hW).mono ?_
  rintro o w1 ⟨rfl, hb1⟩
  go_wp2_with fail
  refine (Tryz.strconv_Itoa (e - 1) (by omega) (by omega) _ (hW.tabs.ten _ hb1)).mono ?_
  rintro o w2 ⟨rfl, k2, os2, rfl⟩
  have hil := Lib.itoa_length_le (e - 1) (by omega) (by omega)
  generalize hit : Lib.itoa (e - 1) = it at hil Hx ⊢
  clear hit
  have hb2 : Below w.heap.size w (grow (w1.drewN k2) os2) := hb1.trans (Lib.below_grow _ _ hb1.size _ _)
  generalize grow (w1.drewN k2) os2 = w2 at hb2 ⊢
  go_wp2_with fail
  go_ret2
  refine text_ret ?_ (hb2)
  rw [Hx.out]
  apply ByteArray.ext
  apply Array.ext'
  simp
  try rw [List.take_of_length_le (by simp)]
theorem rtext_tinyN_n {H L : Nat → Nat} {v : Nat} {l : List UInt8} {e : Int} (h3 : l.length ≤ 20) (h4 : 1 ≤ l.length) (hlo : -449 ≤ e) (hhi : e ≤ 451) (hneg : (FloatKind.f64.format.order v 0 == some .lt) = true) (g0 : e < -5) (h1 : 1 < l.length)
    (w : World) (hW : NumW w H L) (hdc : DigRef H L v l e) :
    Calls Tryz.prog 54 #[.float .f64 v] w fun o w' => o = .returned (.tuple #[.string ⟨(textE true l e).toArray⟩, .int .i64 0]) ∧ Below w.heap.size w w' := by
  have hr : ∀ w, (binOp .lss 22 (.float .f64 v) (.float .f64 0)).run Tryz.prog w = .ok (.bool true) w := fun w => by
    rw [run_flss, hneg]
  have hx : textE true l e = [45] ++ (l.take 1) ++ (46 :: l.drop 1) ++ (69 :: Lib.itoa (e - 1)) := by
    unfold textE
    rw [show (if (true : Bool) = true then [45] else []) = ([45] : List UInt8) from rfl]
    rw [if_pos (by omega), if_pos (by omega)]
    try simp
  have Hx := Lib.hid hx
  clear hx
  have g1 : ¬ 1 ≤ e := by omega
  have g2 : ¬ -5 ≤ e := by omega
  have g5 : (1 : Int) < (l.length : Int) := by omega
  go_enter Tryz.func54, Tryz.ntmps54
  go_wp2_with fail
  refine (hdc _ hW).mono ?_
  rintro o w1 ⟨rfl, hb1⟩
  go_wp2_with fail
  refine (Tryz.strconv_Itoa (e - 1) (by omega) (by omega) _ (hW.tabs.ten _ hb1)).mono ?_
  rintro o w2 ⟨rfl, k2, os2, rfl⟩
  have hil := Lib.itoa_length_le (e - 1) (by omega) (by omega)
  generalize hit : Lib.itoa (e - 1) = it at hil Hx ⊢
  clear hit
  have hb2 : Below w.heap.size w (grow (w1.drewN k2) os2) := hb1.trans (Lib.below_grow _ _ hb1.size _ _)
  generalize grow (w1.drewN k2) os2 = w2 at hb2 ⊢
  go_wp2_with fail
  go_ret2
  refine text_ret ?_ (hb2)
  rw [Hx.out]
  apply ByteArray.ext
  apply Array.ext'
  simp
  try rw [List.take_of_length_le (by simp)]
theorem rtext_huge1_n {H L : Nat → Nat} {v : Nat} {l : List UInt8} {e : Int} (h3 : l.length ≤ 20) (h4 : 1 ≤ l.length) (hlo : -449 ≤ e) (hhi : e ≤ 451) (hneg : (FloatKind.f64.format.order v 0 == some .lt) = true) (g0 : 21 < e) (h1 : l.length = 1)
    (w : World) (hW : NumW w H L) (hdc : DigRef H L v l e) :
    Calls Tryz.prog 54 #[.float .f64 v] w fun o w' => o = .returned (.tuple #[.string ⟨(textE true l e).toArray⟩, .int .i64 0]) ∧ Below w.heap.size w w' := by
  have hr : ∀ w, (binOp .lss 22 (.float .f64 v) (.float .f64 0)).run Tryz.prog w = .ok (.bool true) w := fun w => by
    rw [run_flss, hneg]
  have hx : textE true l e = [45] ++ (l.take 1) ++ (69 :: Lib.itoa (e - 1)) := by
    unfold textE
    rw [show (if (true : Bool) = true then [45] else []) = ([45] : List UInt8) from rfl]
    rw [if_pos (by omega), if_neg (by omega)]
    try simp
  have Hx := Lib.hid hx
  clear hx
  have g1 : 1 ≤ e := by omega
  have g2 : ¬ e ≤ 21 := by omega
  have g3 : -5 ≤ e := by omega
  have g4 : ¬ e ≤ 0 := by omega
  have g5 : (l.length : Int) = 1 := by omega
  have g6 : l.drop 1 = [] := List.drop_eq_nil_of_le (by omega)
  go_enter Tryz.func54, Tryz.ntmps54
  go_wp2_with fail
  refine (hdc _ hW).mono ?_
  rintro o w1 ⟨rfl, hb1⟩
  go_wp2_with fail
  refine (Tryz.strconv_Itoa (e - 1) (by omega) (by omega) _ (hW.tabs.ten _ hb1)).mono ?_
  rintro o w2 ⟨rfl, k2, os2, rfl⟩
  have hil := Lib.itoa_length_le (e - 1) (by omega) (by omega)
  generalize hit : Lib.itoa (e - 1) = it at hil Hx ⊢
  clear hit
  have hb2 : Below w.heap.size w (grow (w1.drewN k2) os2) := hb1.trans (Lib.below_grow _ _ hb1.size _ _)
  generalize grow (w1.drewN k2) os2 = w2 at hb2 ⊢
  go_wp2_with fail
  go_ret2
  refine text_ret ?_ (hb2)
  rw [Hx.out]
  apply ByteArray.ext
  apply Array.ext'
  simp
  try rw [List.take_of_length_le (by simp)]
theorem rtext_hugeN_n {H L : Nat → Nat} {v : Nat} {l : List UInt8} {e : Int} (h3 : l.length ≤ 20) (h4 : 1 ≤ l.length) (hlo : -449 ≤ e) (hhi : e ≤ 451) (hneg : (FloatKind.f64.format.order v 0 == some .lt) = true) (g0 : 21 < e) (h1 : 1 < l.length)
    (w : World) (hW : NumW w H L) (hdc : DigRef H L v l e) :
    Calls Tryz.prog 54 #[.float .f64 v] w fun o w' => o = .returned (.tuple #[.string ⟨(textE true l e).toArray⟩, .int .i64 0]) ∧ Below w.heap.size w w' := by
  have hr : ∀ w, (binOp .lss 22 (.float .f64 v) (.float .f64 0)).run Tryz.prog w = .ok (.bool true) w := fun w => by
    rw [run_flss, hneg]
  have hx : textE true l e = [45] ++ (l.take 1) ++ (46 :: l.drop 1) ++ (69 :: Lib.itoa (e - 1)) := by
    unfold textE
    rw [show (if (true : Bool) = true then [45] else []) = ([45] : List UInt8) from rfl]
    rw [if_pos (by omega), if_pos (by omega)]
    try simp
  have Hx := Lib.hid hx
  clear hx
  have g1 : 1 ≤ e := by omega
  have g2 : ¬ e ≤ 21 := by omega
  have g3 : -5 ≤ e := by omega
  have g4 : ¬ e ≤ 0 := by omega
  have g5 : (1 : Int) < (l.length : Int) := by omega
  go_enter Tryz.func54, Tryz.ntmps54
  go_wp2_with fail
  refine (hdc _ hW).mono ?_
  rintro o w1 ⟨rfl, hb1⟩
  go_wp2_with fail
  refine (Tryz.strconv_Itoa (e - 1) (by omega) (by omega) _ (hW.tabs.ten _ hb1)).mono ?_
  rintro o w2 ⟨rfl, k2, os2, rfl⟩
  have hil := Lib.itoa_length_le (e - 1) (by omega) (by omega)
  generalize hit : Lib.itoa (e - 1) = it at hil Hx ⊢
  clear hit
  have hb2 : Below w.heap.size w (grow (w1.drewN k2) os2) := hb1.trans (Lib.below_grow _ _ hb1.size _ _)
  generalize grow (w1.drewN k2) os2 = w2 at hb2 ⊢
  go_wp2_with fail
  go_ret2
  refine text_ret ?_ (hb2)
  rw [Hx.out]
  apply ByteArray.ext
  apply Array.ext'
  simp
  try rw [List.take_of_length_le (by simp)]
theorem rtext_all {H L : Nat → Nat} {v : Nat} {l : List UInt8} {e : Int} {neg : Bool} (h3 : l.length ≤ 20) (h4 : 1 ≤ l.length) (hlo : -449 ≤ e) (hhi : e ≤ 451) (hneg : (FloatKind.f64.format.order v 0 == some .lt) = neg)
    (w : World) (hW : NumW w H L) (hdc : DigRef H L v l e) :
    Calls Tryz.prog 54 #[.float .f64 v] w fun o w' => o = .returned (.tuple #[.string ⟨(textE neg l e).toArray⟩, .int .i64 0]) ∧ Below w.heap.size w w' := by
  rcases Int.lt_or_le e (-5) with a1 | a1
  · rcases Nat.lt_or_ge 1 l.length with b | b
    · cases neg
      · exact rtext_tinyN_p h3 h4 hlo hhi hneg a1 b w hW hdc
      · exact rtext_tinyN_n h3 h4 hlo hhi hneg a1 b w hW hdc
    · cases neg
      · exact rtext_tiny1_p h3 h4 hlo hhi hneg a1 (by omega) w hW hdc
      · exact rtext_tiny1_n h3 h4 hlo hhi hneg a1 (by omega) w hW hdc
  rcases Int.lt_or_le 21 e with a2 | a2
  · rcases Nat.lt_or_ge 1 l.length with b | b
    · cases neg
      · exact rtext_hugeN_p h3 h4 hlo hhi hneg a2 b w hW hdc
      · exact rtext_hugeN_n h3 h4 hlo hhi hneg a2 b w hW hdc
    · cases neg
      · exact rtext_huge1_p h3 h4 hlo hhi hneg a2 (by omega) w hW hdc
      · exact rtext_huge1_n h3 h4 hlo hhi hneg a2 (by omega) w hW hdc
  rcases Int.lt_or_le 0 e with a3 | a3
  · rcases Int.lt_or_le e (l.length : Int) with a4 | a4
    · cases neg
      · exact rtext_mid_p h3 h4 hlo hhi hneg e.toNat (by omega) (by omega) (by omega) w hW hdc
      · exact rtext_mid_n h3 h4 hlo hhi hneg e.toNat (by omega) (by omega) (by omega) w hW hdc
    · cases neg
      · exact rtext_big_p h3 h4 hlo hhi hneg (e - l.length).toNat (by omega) (by omega) w hW hdc
      · exact rtext_big_n h3 h4 hlo hhi hneg (e - l.length).toNat (by omega) (by omega) w hW hdc
  · cases neg
    · exact rtext_small_p h3 h4 hlo hhi hneg (-e).toNat (by omega) (by omega) w hW hdc
    · exact rtext_small_n h3 h4 hlo hhi hneg (-e).toNat (by omega) (by omega) w hW hdc
open Go Go.RowKit Go.Sort
set_option maxRecDepth 100000
def isNeg (v : Nat) : Bool := decide (9223372036854775808 ≤ v)
theorem neg_bits {v : Nat} (h : 9223372036854775808 ≤ v) (hv : v < 18446744073709551616) : Op.negFloat .f64 v = absB v := by
  show v ^^^ 2 ^ 63 = v % 2 ^ 63
  apply Nat.eq_of_testBit_eq
  intro i
  rw [Nat.testBit_xor, Nat.testBit_two_pow, Nat.testBit_mod_two_pow]
  rcases Nat.lt_trichotomy i 63 with c | c | c
  · simp [c, show ¬ 63 = i by omega]
  · subst c
    have : v.testBit 63 = true := by
      rw [Nat.testBit_eq_decide_div_mod_eq]
      have : v / 2 ^ 63 % 2 = 1 := by omega
      simp [this]
    simp [this]
  · have hlt : v < 2 ^ i := Nat.lt_of_lt_of_le (show v < 2 ^ 64 from hv) (Nat.pow_le_pow_right (show 2 > 0 by decide) (by omega))
    have : v.testBit i = false := Nat.testBit_lt_two_pow hlt
    simp [this, show ¬ 63 = i by omega, show ¬ i < 63 by omega]
theorem abs_pos {v : Nat} (h : ¬ 9223372036854775808 ≤ v) : absB v = v := Nat.mod_eq_of_lt (by omega)
theorem order_sign {v : Nat} (hv : v < 18446744073709551616) (h0 : 1 ≤ absB v) (h1 : absB v < 9218868437227405312) : (FloatKind.f64.format.order v 0 == some .lt) = isNeg v := by
  have hr := Go.Proofs.YtkeibmkcgnppeaaGreatDoor.Rx.read64 v
  obtain ⟨m, i, hm, hrd⟩ : ∃ m i, m ≠ 0 ∧ Ieee.double.read v = .number (v / 9223372036854775808 % 2 == 1) m i := by
    unfold absB at *
    by_cases c1 : v % 9223372036854775808 < 4503599627370496
    · rw [if_pos c1] at hr
      exact ⟨_, _, by omega, hr⟩
    · rw [if_neg c1, if_pos h1] at hr
      exact ⟨_, _, by omega, hr⟩
  have h00 : Ieee.double.read 0 = .number false 0 (-1074) := rfl
  show ((Ieee.Datum.order (Ieee.double.read v) (Ieee.double.read 0)) == some .lt) = _
  rw [hrd, h00]
  simp only [Ieee.Datum.order]
  have hpos : 0 < m <<< (i - min i (-1074)).toNat := by
    rw [Nat.shiftLeft_eq]
    exact Nat.mul_pos (by omega) (Nat.two_pow_pos _)
  have hs : (v / 9223372036854775808 % 2 == 1) = isNeg v := by
    unfold isNeg
    by_cases c : 9223372036854775808 ≤ v
    · rw [decide_eq_true c, beq_iff_eq]; omega
    · rw [decide_eq_false c, beq_eq_false_iff_ne]; omega
  rw [hs]
  simp only [Ieee.signed, Nat.zero_shiftLeft, Bool.false_eq_true, if_false]
  generalize m <<< (i - min i (-1074)).toNat = q at hpos ⊢
  unfold compare
  simp only [instOrdInt, compareOfLessAndEq]
  cases isNeg v
  · simp [hpos, show q ≠ 0 by omega, show ¬ (q : Int) < 0 by omega]
  · simp [hpos, show q ≠ 0 by omega]
open Go Go.RowKit Go.Sort
set_option maxRecDepth 100000
def noPoint (l : List UInt8) : List UInt8 := l.filter fun c => c != 46
theorem noPoint_pointed {l : List UInt8} (h : Dig l) : noPoint (pointed l) = l := by
  have h1 : ∀ {l : List UInt8}, (∀ x ∈ l, 48 ≤ x.toNat ∧ x.toNat ≤ 57) → noPoint l = l := fun h => by
    refine List.filter_eq_self.mpr fun x hx => ?_
    have := digits_no46 h x hx
    simpa using this
  have h2 := h.mem
  match l, h2 with
  | [], _ => rfl
  | [c], h2 => exact h1 h2
  | c :: d :: r, h2 =>
    have e1 := h1 (l := [c]) fun x hx => h2 x (by simp at hx; simp [hx])
    have e2 := h1 (l := d :: r) fun x hx => h2 x (List.mem_cons_of_mem _ hx)
    show noPoint ([c] ++ [46] ++ (d :: r)) = _
    unfold noPoint at *
    rw [List.filter_append, List.filter_append, e1, e2]
    rfl
theorem run_slice_str (s : ByteArray) (l h : Int) (h0 : 0 ≤ l) (h1 : l ≤ h) (h2 : h ≤ s.size) (w : World) :
    (Instr.slice 9 (.string s) (some (.int .i64 l)) (some (.int .i64 h)) none).run Tryz.prog w = .ok (.string (s.extract l.toNat h.toNat)) w := by
  have hu : Tryz.prog.underlying 9 = some .string := by kernel_rfl
  have eh : (h.toNat : Int) = h := Int.toNat_of_nonneg (by omega)
  simp [Instr.slice, run_underlying hu, Instr.sliceBounds, run_sliceBound, *, eh, (by omega : 0 ≤ l), (by omega : 0 ≤ h)]
theorem noPoint_step {q : List UInt8} {i : Nat} (h : i < q.length) : noPoint (q.take (i + 1)) = noPoint (q.take i) ++ (if q[i] = 46 then [] else [q[i]]) := by
  unfold noPoint
  rw [List.take_add_one, List.getElem?_eq_getElem h, List.filter_append]
  congr 1
  by_cases c : q[i] = 46
  · rw [if_pos c]; simp [c]
  · rw [if_neg c]; simp [c]
theorem rdigits_p {H L : Nat → Nat} {v : Nat} {l : List UInt8} {E : Int} (hv : Plain (absB v)) (hv64 : v < 18446744073709551616) (hs : ¬ 9223372036854775808 ≤ v) (hd : DE l E)
    (hf : ∀ (w : World), NumTabs w.heap.size w H L → Calls Tryz.prog 139 #[.float .f64 (absB v), .int .u8 101, .int .i64 (-1), .int .i64 64] w fun e w' => e = .returned (.string ⟨(eText l E).toArray⟩) ∧ Below w.heap.size w w')
    (w : World) (hW : NumW w H L) :
    Calls Tryz.prog 91 #[.float .f64 v] w fun e w' => e = .returned (.tuple #[.string ⟨l.toArray⟩, .int .i64 (E + 1), .int .i64 0]) ∧ Below w.heap.size w w' := by
  have F := fin_of hv.1 hv.2
  have FA := fin_of (v := absB v) (by unfold absB at *; rw [Nat.mod_mod]; exact hv.1) (by unfold absB at *; rw [Nat.mod_mod]; exact hv.2)
  have hr1 : ∀ w, (binOp .lss 22 (.float .f64 v) (.float .f64 0)).run Tryz.prog w = .ok (.bool false) w := fun w => by
    rw [run_flss, order_sign hv64 hv.1 hv.2, show isNeg v = false from decide_eq_false hs]
  have hr : ∀ w, (binOp .eql 22 (.float .f64 (absB v)) (.float .f64 0)).run Tryz.prog w = .ok (.bool false) w := fun w => by
    rw [run_feql, show (FloatKind.f64.format.order (absB v) 0 == some .eq) = false by rw [beq_eq_false_iff_ne]; exact FA.nought]
  have hab : v = absB v := (abs_pos hs).symm
  have h1 := hd.lo
  have h2 := hd.hi
  have h3 := hd.dig.few
  have h4 := hd.dig.pos
  obtain ⟨T, hT⟩ : ∃ T : ByteArray, T = ⟨(eText l E).toArray⟩ := ⟨_, rfl⟩
  rw [← hT] at hf
  have hsub := F.sub
  have HT := Lib.hid hT
  have Hd := Lib.hid hd
  clear hT hd hv F FA hs
  rw [hab]
  rw [hab] at hr1 hsub
  generalize absB v = a at *
  clear hab
  go_enter Tryz.func91, Tryz.ntmps91
  go_wp2_with fail
  refine (refFinite_call hsub _).mono ?_
  rintro e w' ⟨rfl, rfl⟩
  go_wp2_with fail
  refine (hf _ hW.tabs).mono ?_
  rintro e w1 ⟨rfl, hb1⟩
  go_wp2_with fail
  go_loop [6, 7] (fun vs vn => ∃ i : Nat, vs = .string ⟨(noPoint ((pointed l).take i)).toArray⟩ ∧ vn = .int .i64 i ∧ i ≤ (pointed l).length) (fun vs vn => (pointed l).length - (intOf vn).toNat)
  case atStart => exact ⟨0, rfl, rfl, Nat.zero_le _⟩
  case round =>
    obtain ⟨i, rfl, rfl, hi⟩ := hrel
    have hsz0 : T.size = (pointed l).length + 1 + (expT E).length := by rw [HT.out, ba_size]; show (pointed l ++ 101 :: expT E).length = _; simp; omega
    obtain ⟨N, hN⟩ : ∃ N, N = (pointed l).length + 1 + (expT E).length := ⟨_, rfl⟩
    have hsz : T.size = N := by rw [hsz0, hN]
    clear hsz0
    have hiN : i < N := by omega
    have hN40 : N ≤ 40 := by have := pointed_len (l := l); have := expT_len (E := E); omega
    have hiN' : i < T.size := by rw [hsz]; exact hiN
    have HN := Lib.hid hN
    rcases Nat.lt_or_ge i (pointed l).length with hlt | hge
    · obtain ⟨c, hc⟩ : ∃ c, c = (pointed l)[i] := ⟨_, rfl⟩
      have hst := noPoint_step hlt
      have hti : T[i] = c := by
        rw [hc]
        have e1 : T.data[i]? = some (pointed l)[i] := by
          rw [HT.out]
          show (pointed l ++ 101 :: expT E).toArray[i]? = _
          rw [List.getElem?_toArray, List.getElem?_append_left hlt, List.getElem?_eq_getElem hlt]
        have e2 : T.data[i]? = some T[i] := Array.getElem?_eq_getElem _
        rw [e1] at e2
        exact (Option.some.inj e2).symm
      have hne : c ≠ 101 := by rw [hc]; exact pointed_mem Hd.out.dig.mem _ (List.getElem_mem hlt)
      rw [← hc] at hst
      clear hc
      have hx : T.extract i (i + 1) = ⟨#[c]⟩ := by
        apply ByteArray.ext
        rw [ByteArray.data_extract]
        have := hti
        apply Array.ext
        · simp; have : T.data.size = N := hsz; omega
        · intro k k1 k2
          have hk : k = 0 := by simp at k2; omega
          subst hk
          rw [Array.getElem_extract]
          exact hti
      have Hx := Lib.hid hx
      have Hti := Lib.hid hti
      have e101 : ((T[i].toNat : Int) != 101) = true := by
        rw [hti, bne_iff_ne]
        intro h
        exact hne (UInt8.toNat_inj.mp (by show c.toNat = 101; omega))
      have hb : (i : Int) < (N : Int) := by omega
      have hb1' : (i : Int) + 1 ≤ (N : Int) := by omega
      have Hlt := Lib.hid hlt
      have Hst := Lib.hid hst
      clear hx hti hne hst
      by_cases c46 : c = 46
      · have e46 : ((T[i].toNat : Int) != 46) = false := by
          rw [Hti.out, c46]; rfl
        have Hc46 := Lib.hid c46
        clear hN c46
        go_wp2_with fail
        refine ⟨⟨i + 1, ?_, rfl, Hlt.out⟩, by have := Hlt.out; simp only [intOf]; omega⟩
        rw [Hst.out, if_pos Hc46.out, List.append_nil]
      · have e46 : ((T[i].toNat : Int) != 46) = true := by
          rw [Hti.out, bne_iff_ne]
          intro h
          exact c46 (UInt8.toNat_inj.mp (by show c.toNat = 46; omega))
        have Hc46 := Lib.hid c46
        have hsl : ∀ w, (Instr.slice 9 (.string T) (some (.int .i64 i)) (some (.int .i64 (i + 1))) none).run Tryz.prog w = .ok (.string ⟨#[c]⟩) w := fun w => by
          rw [run_slice_str T i (i + 1) (by omega) (by omega) (by omega) w, show ((i : Int)).toNat = i by omega, show ((i : Int) + 1).toNat = i + 1 by omega, Hx.out]
        have hnp : (noPoint ((pointed l).take i)).length ≤ 40 := Nat.le_trans (List.length_filter_le _ _) (by rw [List.length_take]; omega)
        clear hN c46
        go_wp2_with fail
        refine ⟨⟨i + 1, ?_, rfl, Hlt.out⟩, by have := Hlt.out; simp only [intOf]; omega⟩
        rw [Hst.out, if_neg Hc46.out]
        congr 1
    · have hi2 : i = (pointed l).length := by omega
      have hti : T[i] = 101 := by
        have e1 : T.data[i]? = some 101 := by
          rw [HT.out]
          show (pointed l ++ 101 :: expT E).toArray[i]? = _
          rw [List.getElem?_toArray, List.getElem?_append_right hge, show i - (pointed l).length = 0 by omega]
          rfl
        have e2 : T.data[i]? = some T[i] := Array.getElem?_eq_getElem _
        rw [e1] at e2
        exact (Option.some.inj e2).symm
      have hx : T.extract (i + 1) N = ⟨(expT E).toArray⟩ := by
        have e0 : eText l E = pointed l ++ 101 :: expT E := rfl
        rw [HT.out, ba_ext, e0, List.take_of_length_le (by simp; omega), hi2, List.drop_append]
        simp
      have hx2 : (⟨(noPoint ((pointed l).take i)).toArray⟩ : ByteArray) = ⟨l.toArray⟩ := by
        rw [hi2, List.take_length, noPoint_pointed Hd.out.dig]
      have e101 : ((T[i].toNat : Int) != 101) = false := by rw [hti]; rfl
      have hb : (i : Int) < (N : Int) := by omega
      have hb1' : (i : Int) + 1 ≤ (N : Int) := by omega
      have Hx := Lib.hid hx
      rw [hx2]
      clear hN hi2 hti hx hx2
      go_wp2_with fail
      rw [Hx.out]
      refine (Tryz.strconv_Atoi ⟨(expT E).toArray⟩ E (by rw [ba_size]; have := expT_len (E := E); omega) (by simpa using atoi_exp (E := E) (by omega) (by omega)) _).mono ?_
      rintro e w3 ⟨rfl, t3, rfl⟩
      have hb3 : Below w'.heap.size w' (Lib.bytesWorld w1 5 t3) := hb1.trans (Go.Joins.below_bytesWorld _ _ 5 t3 hb1.size)
      generalize Lib.bytesWorld w1 5 t3 = w3 at hb3 ⊢
      have hls : (⟨l.toArray⟩ : ByteArray).size = l.length := ba_size l
      have hlast := Hd.out.dig.last (by omega)
      go_wp2_with fail
      rcases Nat.lt_or_ge 1 l.length with g | g
      · refine wp_loop_rounds 1 ?_
        rw [rounds_succ]
        have hg1 : (1 : Int) < (l.length : Int) := by omega
        have h48 : ((((⟨l.toArray⟩ : ByteArray)[l.length - 1]'(by rw [hls]; omega)).toNat : Int) == 48) = false := by
          show ((l[l.length - 1].toNat : Int) == 48) = false
          rw [beq_eq_false_iff_ne]
          omega
        go_wp2_with fail
        go_ret3
        exact ⟨rfl, hb3⟩
      · have hg : l.length = 1 := by omega
        refine wp_loop_rounds 1 ?_
        rw [rounds_succ]
        go_wp2_with fail
        go_ret3
        exact ⟨rfl, hb3⟩
theorem rdigits_n {H L : Nat → Nat} {v : Nat} {l : List UInt8} {E : Int} (hv : Plain (absB v)) (hv64 : v < 18446744073709551616) (hs : 9223372036854775808 ≤ v) (hd : DE l E)
    (hf : ∀ (w : World), NumTabs w.heap.size w H L → Calls Tryz.prog 139 #[.float .f64 (absB v), .int .u8 101, .int .i64 (-1), .int .i64 64] w fun e w' => e = .returned (.string ⟨(eText l E).toArray⟩) ∧ Below w.heap.size w w')
    (w : World) (hW : NumW w H L) :
    Calls Tryz.prog 91 #[.float .f64 v] w fun e w' => e = .returned (.tuple #[.string ⟨l.toArray⟩, .int .i64 (E + 1), .int .i64 0]) ∧ Below w.heap.size w w' := by
  have F := fin_of hv.1 hv.2
  have FA := fin_of (v := absB v) (by unfold absB at *; rw [Nat.mod_mod]; exact hv.1) (by unfold absB at *; rw [Nat.mod_mod]; exact hv.2)
  have hr1 : ∀ w, (binOp .lss 22 (.float .f64 v) (.float .f64 0)).run Tryz.prog w = .ok (.bool true) w := fun w => by
    rw [run_flss, order_sign hv64 hv.1 hv.2, show isNeg v = true from decide_eq_true hs]
  have hr : ∀ w, (binOp .eql 22 (.float .f64 (absB v)) (.float .f64 0)).run Tryz.prog w = .ok (.bool false) w := fun w => by
    rw [run_feql, show (FloatKind.f64.format.order (absB v) 0 == some .eq) = false by rw [beq_eq_false_iff_ne]; exact FA.nought]
  have hab : ∀ w, (Op.unary .neg (.float .f64 v)).run Tryz.prog w = .ok (.float .f64 (absB v)) w := fun w => by rw [← neg_bits hs hv64]; rfl
  have h1 := hd.lo
  have h2 := hd.hi
  have h3 := hd.dig.few
  have h4 := hd.dig.pos
  obtain ⟨T, hT⟩ : ∃ T : ByteArray, T = ⟨(eText l E).toArray⟩ := ⟨_, rfl⟩
  rw [← hT] at hf
  have hsub := F.sub
  have HT := Lib.hid hT
  have Hd := Lib.hid hd
  clear hT hd hv F FA hs
  go_enter Tryz.func91, Tryz.ntmps91
  go_wp2_with fail
  refine (refFinite_call hsub _).mono ?_
  rintro e w' ⟨rfl, rfl⟩
  go_wp2_with fail
  refine (hf _ hW.tabs).mono ?_
  rintro e w1 ⟨rfl, hb1⟩
  go_wp2_with fail
  go_loop [6, 7] (fun vs vn => ∃ i : Nat, vs = .string ⟨(noPoint ((pointed l).take i)).toArray⟩ ∧ vn = .int .i64 i ∧ i ≤ (pointed l).length) (fun vs vn => (pointed l).length - (intOf vn).toNat)
  case atStart => exact ⟨0, rfl, rfl, Nat.zero_le _⟩
  case round =>
    obtain ⟨i, rfl, rfl, hi⟩ := hrel
    have hsz0 : T.size = (pointed l).length + 1 + (expT E).length := by rw [HT.out, ba_size]; show (pointed l ++ 101 :: expT E).length = _; simp; omega
    obtain ⟨N, hN⟩ : ∃ N, N = (pointed l).length + 1 + (expT E).length := ⟨_, rfl⟩
    have hsz : T.size = N := by rw [hsz0, hN]
    clear hsz0
    have hiN : i < N := by omega
    have hN40 : N ≤ 40 := by have := pointed_len (l := l); have := expT_len (E := E); omega
    have hiN' : i < T.size := by rw [hsz]; exact hiN
    have HN := Lib.hid hN
    rcases Nat.lt_or_ge i (pointed l).length with hlt | hge
    · obtain ⟨c, hc⟩ : ∃ c, c = (pointed l)[i] := ⟨_, rfl⟩
      have hst := noPoint_step hlt
      have hti : T[i] = c := by
        rw [hc]
        have e1 : T.data[i]? = some (pointed l)[i] := by
          rw [HT.out]
          show (pointed l ++ 101 :: expT E).toArray[i]? = _
          rw [List.getElem?_toArray, List.getElem?_append_left hlt, List.getElem?_eq_getElem hlt]
        have e2 : T.data[i]? = some T[i] := Array.getElem?_eq_getElem _
        rw [e1] at e2
        exact (Option.some.inj e2).symm
      have hne : c ≠ 101 := by rw [hc]; exact pointed_mem Hd.out.dig.mem _ (List.getElem_mem hlt)
      rw [← hc] at hst
      clear hc
      have hx : T.extract i (i + 1) = ⟨#[c]⟩ := by
        apply ByteArray.ext
        rw [ByteArray.data_extract]
        have := hti
        apply Array.ext
        · simp; have : T.data.size = N := hsz; omega
        · intro k k1 k2
          have hk : k = 0 := by simp at k2; omega
          subst hk
          rw [Array.getElem_extract]
          exact hti
      have Hx := Lib.hid hx
      have Hti := Lib.hid hti
      have e101 : ((T[i].toNat : Int) != 101) = true := by
        rw [hti, bne_iff_ne]
        intro h
        exact hne (UInt8.toNat_inj.mp (by show c.toNat = 101; omega))
      have hb : (i : Int) < (N : Int) := by omega
      have hb1' : (i : Int) + 1 ≤ (N : Int) := by omega
      have Hlt := Lib.hid hlt
      have Hst := Lib.hid hst
      clear hx hti hne hst
      by_cases c46 : c = 46
      · have e46 : ((T[i].toNat : Int) != 46) = false := by
          rw [Hti.out, c46]; rfl
        have Hc46 := Lib.hid c46
        clear hN c46
        go_wp2_with fail
        refine ⟨⟨i + 1, ?_, rfl, Hlt.out⟩, by have := Hlt.out; simp only [intOf]; omega⟩
        rw [Hst.out, if_pos Hc46.out, List.append_nil]
      · have e46 : ((T[i].toNat : Int) != 46) = true := by
          rw [Hti.out, bne_iff_ne]
          intro h
          exact c46 (UInt8.toNat_inj.mp (by show c.toNat = 46; omega))
        have Hc46 := Lib.hid c46
        have hsl : ∀ w, (Instr.slice 9 (.string T) (some (.int .i64 i)) (some (.int .i64 (i + 1))) none).run Tryz.prog w = .ok (.string ⟨#[c]⟩) w := fun w => by
          rw [run_slice_str T i (i + 1) (by omega) (by omega) (by omega) w, show ((i : Int)).toNat = i by omega, show ((i : Int) + 1).toNat = i + 1 by omega, Hx.out]
        have hnp : (noPoint ((pointed l).take i)).length ≤ 40 := Nat.le_trans (List.length_filter_le _ _) (by rw [List.length_take]; omega)
        clear hN c46
        go_wp2_with fail
        refine ⟨⟨i + 1, ?_, rfl, Hlt.out⟩, by have := Hlt.out; simp only [intOf]; omega⟩
        rw [Hst.out, if_neg Hc46.out]
        congr 1
    · have hi2 : i = (pointed l).length := by omega
      have hti : T[i] = 101 := by
        have e1 : T.data[i]? = some 101 := by
          rw [HT.out]
          show (pointed l ++ 101 :: expT E).toArray[i]? = _
          rw [List.getElem?_toArray, List.getElem?_append_right hge, show i - (pointed l).length = 0 by omega]
          rfl
        have e2 : T.data[i]? = some T[i] := Array.getElem?_eq_getElem _
        rw [e1] at e2
        exact (Option.some.inj e2).symm
      have hx : T.extract (i + 1) N = ⟨(expT E).toArray⟩ := by
        have e0 : eText l E = pointed l ++ 101 :: expT E := rfl
        rw [HT.out, ba_ext, e0, List.take_of_length_le (by simp; omega), hi2, List.drop_append]
        simp
      have hx2 : (⟨(noPoint ((pointed l).take i)).toArray⟩ : ByteArray) = ⟨l.toArray⟩ := by
        rw [hi2, List.take_length, noPoint_pointed Hd.out.dig]
      have e101 : ((T[i].toNat : Int) != 101) = false := by rw [hti]; rfl
      have hb : (i : Int) < (N : Int) := by omega
      have hb1' : (i : Int) + 1 ≤ (N : Int) := by omega
      have Hx := Lib.hid hx
      rw [hx2]
      clear hN hi2 hti hx hx2
      go_wp2_with fail
      rw [Hx.out]
      refine (Tryz.strconv_Atoi ⟨(expT E).toArray⟩ E (by rw [ba_size]; have := expT_len (E := E); omega) (by simpa using atoi_exp (E := E) (by omega) (by omega)) _).mono ?_
      rintro e w3 ⟨rfl, t3, rfl⟩
      have hb3 : Below w'.heap.size w' (Lib.bytesWorld w1 5 t3) := hb1.trans (Go.Joins.below_bytesWorld _ _ 5 t3 hb1.size)
      generalize Lib.bytesWorld w1 5 t3 = w3 at hb3 ⊢
      have hls : (⟨l.toArray⟩ : ByteArray).size = l.length := ba_size l
      have hlast := Hd.out.dig.last (by omega)
      go_wp2_with fail
      rcases Nat.lt_or_ge 1 l.length with g | g
      · refine wp_loop_rounds 1 ?_
        rw [rounds_succ]
        have hg1 : (1 : Int) < (l.length : Int) := by omega
        have h48 : ((((⟨l.toArray⟩ : ByteArray)[l.length - 1]'(by rw [hls]; omega)).toNat : Int) == 48) = false := by
          show ((l[l.length - 1].toNat : Int) == 48) = false
          rw [beq_eq_false_iff_ne]
          omega
        go_wp2_with fail
        go_ret3
        exact ⟨rfl, hb3⟩
      · have hg : l.length = 1 := by omega
        refine wp_loop_rounds 1 ?_
        rw [rounds_succ]
        go_wp2_with fail
        go_ret3
        exact ⟨rfl, hb3⟩
theorem rdigits_call {H L : Nat → Nat} {v : Nat} {l : List UInt8} {E : Int} (hv : Plain (absB v)) (hv64 : v < 18446744073709551616) (hd : DE l E)
    (hf : ∀ (w : World), NumTabs w.heap.size w H L → Calls Tryz.prog 139 #[.float .f64 (absB v), .int .u8 101, .int .i64 (-1), .int .i64 64] w fun e w' => e = .returned (.string ⟨(eText l E).toArray⟩) ∧ Below w.heap.size w w')
    (w : World) (hW : NumW w H L) :
    Calls Tryz.prog 91 #[.float .f64 v] w fun e w' => e = .returned (.tuple #[.string ⟨l.toArray⟩, .int .i64 (E + 1), .int .i64 0]) ∧ Below w.heap.size w w' := by
  by_cases hs : 9223372036854775808 ≤ v
  · exact rdigits_n hv hv64 hs hd hf w hW
  · exact rdigits_p hv hv64 hs hd hf w hW
theorem textE_len {neg : Bool} {l : List UInt8} {e : Int} (h3 : l.length ≤ 20) (h1 : -449 ≤ e) (h2 : e ≤ 451) : (textE neg l e).length ≤ 600 := by
  skip
  have hi := Lib.itoa_length_le (e - 1) (by omega) (by omega)
  have hr : ∀ c, (Lib.repeatL [48] c).length = c := repeat_len
  unfold textE
  rw [List.length_append]
  have a : (if neg then ([45] : List UInt8) else []).length ≤ 1 := by cases neg <;> simp
  refine Nat.le_trans (Nat.add_le_add a (Nat.le_refl _)) ?_
  split
  · simp only [List.length_append, List.length_cons, List.length_take]
    split <;> simp <;> omega
  · split
    · simp only [List.length_append, List.length_cons, hr]; omega
    · split
      · simp only [List.length_append, hr]; omega
      · simp only [List.length_append, List.length_cons, List.length_take, List.length_drop]; omega
theorem texts (H L : Nat → Nat) (hT : TabOk H L) (v : Nat) (hv : Plain (absB v)) (hv64 : v < 18446744073709551616) : ∃ t : ByteArray, t.size ≤ 600 ∧
    (∀ w, NumW w H L → Calls Tryz.prog 48 #[.float .f64 v] w fun o w' => o = .returned (.tuple #[.string t, .int .i64 0]) ∧ Below w.heap.size w w') ∧
    (∀ w, NumW w H L → Calls Tryz.prog 54 #[.float .f64 v] w fun o w' => o = .returned (.tuple #[.string t, .int .i64 0]) ∧ Below w.heap.size w w') := by
  obtain ⟨l, E, hd, hf⟩ := digs_of H L hT (absB v) hv
  have hneg := order_sign hv64 hv.1 hv.2
  have h1 := hd.lo
  have h2 := hd.hi
  refine ⟨⟨(textE (isNeg v) l (E + 1)).toArray⟩, ?_, fun w hW => ?_, fun w hW => ?_⟩
  · rw [ba_size]
    exact textE_len hd.dig.few (by omega) (by omega)
  · exact text_all hd.dig.few hd.dig.pos (by omega) (by omega) hneg w hW fun w2 hW2 => digits_call hv hd hf w2 hW2
  · exact rtext_all hd.dig.few hd.dig.pos (by omega) (by omega) hneg w hW fun w2 hW2 => rdigits_call hv hv64 hd hf w2 hW2
open Go Go.RowKit Go.Sort
set_option maxRecDepth 100000
structure Nought (v : Nat) : Prop where
  self : FloatKind.f64.format.order v v = some .eq
  nought : FloatKind.f64.format.order v 0 = some .eq
  abs : FloatKind.f64.format.order (absB v) 9218868437227405311 ≠ some .gt
  sub : FloatKind.f64.format.sub v v = some 0
theorem nought_of {v : Nat} (h : v = 0 ∨ v = 9223372036854775808) : Nought v := by
  rcases h with rfl | rfl
  · exact ⟨by decide +kernel, by decide +kernel, by decide +kernel, by decide +kernel⟩
  · exact ⟨by decide +kernel, by decide +kernel, by decide +kernel, by decide +kernel⟩
theorem digits_zero {v : Nat} (N : Nought v) (w : World) :
    Calls Tryz.prog 89 #[.float .f64 v] w fun e w' => e = .returned (.tuple #[.string ⟨[48].toArray⟩, .int .i64 1, .int .i64 0]) ∧ Below w.heap.size w w' := by
  have hr : ∀ w, (binOp .eql 22 (.float .f64 v) (.float .f64 0)).run Tryz.prog w = .ok (.bool true) w := fun w => by
    rw [run_feql, N.nought]; rfl
  go_enter Tryz.func89, Tryz.ntmps89
  go_wp2_with fail
  refine (finite_call N.self N.abs _).mono ?_
  rintro e w' ⟨rfl, rfl⟩
  go_wp2_with fail
  go_ret3
  exact ⟨rfl, Below.refl _ _⟩
theorem rdigits_zero {v : Nat} (N : Nought v) (w : World) :
    Calls Tryz.prog 91 #[.float .f64 v] w fun e w' => e = .returned (.tuple #[.string ⟨[48].toArray⟩, .int .i64 1, .int .i64 0]) ∧ Below w.heap.size w w' := by
  have hr : ∀ w, (binOp .eql 22 (.float .f64 v) (.float .f64 0)).run Tryz.prog w = .ok (.bool true) w := fun w => by
    rw [run_feql, N.nought]; rfl
  have hr1 : ∀ w, (binOp .lss 22 (.float .f64 v) (.float .f64 0)).run Tryz.prog w = .ok (.bool false) w := fun w => by
    rw [run_flss, N.nought]; rfl
  go_enter Tryz.func91, Tryz.ntmps91
  go_wp2_with fail
  refine (refFinite_call N.sub _).mono ?_
  rintro e w' ⟨rfl, rfl⟩
  go_wp2_with fail
  go_ret3
  exact ⟨rfl, Below.refl _ _⟩
theorem texts_all (H L : Nat → Nat) (hT : TabOk H L) (v : Nat) (hv : absB v < 9218868437227405312) (hv64 : v < 18446744073709551616) : ∃ t : ByteArray, t.size ≤ 600 ∧
    (∀ w, NumW w H L → Calls Tryz.prog 48 #[.float .f64 v] w fun o w' => o = .returned (.tuple #[.string t, .int .i64 0]) ∧ Below w.heap.size w w') ∧
    (∀ w, NumW w H L → Calls Tryz.prog 54 #[.float .f64 v] w fun o w' => o = .returned (.tuple #[.string t, .int .i64 0]) ∧ Below w.heap.size w w') := by
  by_cases h0 : absB v = 0
  · have hz : v = 0 ∨ v = 9223372036854775808 := by unfold absB at h0; omega
    have N := nought_of hz
    have hneg : (FloatKind.f64.format.order v 0 == some .lt) = false := by rw [N.nought]; rfl
    refine ⟨⟨(textE false [48] 1).toArray⟩, by rw [ba_size]; exact textE_len (by decide) (by decide) (by decide), fun w hW => ?_, fun w hW => ?_⟩
    · exact text_all (by decide) (by decide) (by decide) (by decide) hneg w hW fun w2 _ => digits_zero N w2
    · exact rtext_all (by decide) (by decide) (by decide) (by decide) hneg w hW fun w2 _ => rdigits_zero N w2
  · exact texts H L hT v ⟨by omega, hv⟩ hv64
open Go Go.RowKit Go.Sort
set_option maxRecDepth 100000
def dataSpace : ByteArray := ⟨#[117, 114, 110, 58, 111, 97, 115, 105, 115, 58, 110, 97, 109, 101, 115, 58, 116, 99, 58, 111, 112, 101, 110, 100, 111, 99, 117, 109, 101, 110, 116, 58, 120, 109, 108, 110, 115, 58, 100, 97, 116, 97, 115, 116, 121, 108, 101, 58, 49, 46, 48]⟩
end Go.Proofs.YtkeibmkcgnppeaaGreatDoor

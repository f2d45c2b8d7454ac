/- The shortest decimal of a float, second part: the text with an exponent. -/
import Derived.Test.YtkeibmkcgnppeaaGreatDoorZFa
import Derived.Lib.ItoaMem
import Derived.Lib.ItoaLen
import Derived.OwnWalk
import Derived.Lib.OwnKind
import Derived.Lib.BufferKept
import Derived.Lib.UnsafeStr
import Derived.LoopN
set_option maxHeartbeats 32000000
namespace Go.Proofs.YtkeibmkcgnppeaaGreatDoor
open Go Go.RowKit Go.Sort
set_option maxRecDepth 100000
theorem below_mapBlock (w : World) (blk : Nat) (f : Array Value → Array Value) : Below blk w (mapBlock w blk f) :=
  ⟨rfl, rfl, rfl, by simp [mapBlock], fun k hk => by
    show (w.heap.modify blk _)[k]? = w.heap[k]?
    rw [Array.getElem?_modify]
    split
    · omega
    · rfl⟩
def KindKept (blk : Nat) (w w' : World) : Prop := ∀ e, (∃ arr fz, w.heap[blk]? = some (.cells arr e fz)) → ∃ arr fz, w'.heap[blk]? = some (.cells arr e fz)
theorem kind_mapBlock (w : World) (blk : Nat) (f : Array Value → Array Value) : KindKept blk w (mapBlock w blk f) := by
  rintro e ⟨arr, fz, h⟩
  refine ⟨f arr, fz, ?_⟩
  show (w.heap.modify blk _)[blk]? = _
  rw [Array.getElem?_modify, if_pos rfl, h]
  rfl
theorem fmt10_call (blk nd cap u : Nat) (w : World) (hnd : nd = Lib.nDigits u) (hu : u < 18446744073709551616)
    (hz : ∀ j, j < nd → w.cell? ⟨blk, j, none⟩ = some (.int .u8 0) ∧ w.frozen? ⟨blk, j, none⟩ = false) :
    Calls Tryz.prog 174 #[.slice (some ⟨blk, 0, none⟩) nd cap, .int .u64 u] w fun e w' => e = .returned (.tuple #[]) ∧
      (∀ j (hj : j < (Lib.decDigits u).length), w'.cell? ⟨blk, j, none⟩ = some (.int .u8 ((Lib.decDigits u)[j].toNat : Int))) ∧
      (∀ j, nd ≤ j → w'.cell? ⟨blk, j, none⟩ = w.cell? ⟨blk, j, none⟩) ∧ (∀ a, w'.frozen? a = w.frozen? a) ∧ KindKept blk w w' ∧ w'.heap.size = w.heap.size ∧ Below blk w w' := by
  have h20 := Lib.nDigits_le20 u hu
  have hH : Holds (fun (b : UInt8) => Value.int .u8 (b.toNat : Int)) w blk 0 (Array.replicate nd 0) := by
    intro j hj
    rw [Array.size_replicate] at hj
    obtain ⟨h1, h2⟩ := hz j hj
    rw [Nat.zero_add]
    refine ⟨?_, h2⟩
    rw [h1, getElem!_pos _ j (by rw [Array.size_replicate]; exact hj), Array.getElem_replicate]
    rfl
  have hfmt := Tryz.internal_strconv_formatBase10 blk 0 cap u (Array.replicate nd 0) w hH (by rw [Array.size_replicate, hnd]; exact Lib.lt_pow_nDigits u) hu (by rw [Array.size_replicate]; omega)
  rw [Array.size_replicate] at hfmt
  refine hfmt.mono ?_
  rintro e w' ⟨rfl, k, v', dk, rfl, hF⟩
  have hsz := hF.size
  refine ⟨rfl, fun j hj => ?_, fun j hj => ?_, fun a => ?_, kind_mapBlock w blk _, ?_, ?_⟩
  · have hj2 : j < nd := by rw [Lib.decDigits_length] at hj; omega
    have := cell?_putRow (fun (b : UInt8) => Value.int .u8 (b.toNat : Int)) w blk 0 _ dk hH (by rw [hsz, Array.size_replicate]) j (by omega)
    rw [Nat.zero_add] at this
    rw [World.cell?_drewN, this]
    subst hnd
    rw [Lib.row_is_numeral hF j hj]
  · rw [World.cell?_drewN, cell?_putRow_other _ _ _ _ _ _ (Or.inr (Or.inr (by show 0 + dk.size ≤ j; omega)))]
  · rw [World.frozen?_drewN, frozen?_putRow]
  · show (putRow _ w blk 0 dk).heap.size = _
    rw [size_putRow]
  · exact below_drewN (below_mapBlock w blk _) k
def keptD (l : List UInt8) : Nat → Nat
  | 0 => 0
  | n + 1 => match l[n]? with
    | some c => cond (c == 48) (keptD l n) (n + 1)
    | none => n + 1
theorem keptD_le (l : List UInt8) : ∀ n, keptD l n ≤ n
  | 0 => Nat.le_refl _
  | n + 1 => by
    unfold keptD
    have := keptD_le l n
    split
    · rename_i c _
      cases (c == 48) with
      | true => exact Nat.le_succ_of_le this
      | false => exact Nat.le_refl _
    · exact Nat.le_refl _
theorem keptD_succ (l : List UInt8) (n : Nat) : keptD l (n + 1) = match l[n]? with
    | some c => cond (c == 48) (keptD l n) (n + 1)
    | none => n + 1 := rfl
theorem keptD_nought {l : List UInt8} {n : Nat} (h : n < l.length) (hc : l[n].toNat = 48) : keptD l (n + 1) = keptD l n := by
  rw [keptD_succ, List.getElem?_eq_getElem h]
  have : (l[n] == 48) = true := by
    rw [beq_iff_eq]
    exact UInt8.toNat_inj.1 hc
  simp only [this, cond_true]
theorem keptD_other {l : List UInt8} {n : Nat} (h : n < l.length) (hc : l[n].toNat ≠ 48) : keptD l (n + 1) = n + 1 := by
  rw [keptD_succ, List.getElem?_eq_getElem h]
  have : (l[n] == 48) = false := by
    rw [beq_eq_false_iff_ne]
    intro e
    exact hc (by rw [e]; rfl)
  simp only [this, cond_false]
theorem setDigits_call (blk u nd : Nat) (p : Int) (w : World) (hnd : nd = Lib.nDigits u) (hu : u < 18446744073709551616) (hp0 : -1000 ≤ p) (hp1 : p ≤ 1000)
    (hz : ∀ j, j < 32 → w.cell? ⟨blk, j, none⟩ = some (.int .u8 0) ∧ w.frozen? ⟨blk, j, none⟩ = false) :
    Calls Tryz.prog 223 #[.slice (some ⟨blk, 0, none⟩) 32 32, .int .u64 u, .int .i64 p, .int .i64 nd] w fun e w' =>
      e = .returned (.tuple #[.int .i64 ((nd : Int) + p), .int .i64 (keptD (Lib.decDigits u) nd)]) ∧
      (∀ j (hj : j < (Lib.decDigits u).length), w'.cell? ⟨blk, j, none⟩ = some (.int .u8 ((Lib.decDigits u)[j].toNat : Int))) ∧ KindKept blk w w' ∧ w'.heap.size = w.heap.size ∧ Below blk w w' := by
  have h20 : nd ≤ 20 := by have := Lib.nDigits_le20 u hu; omega
  have hcall : Calls Tryz.prog 174 #[.slice (some ⟨blk, 0, none⟩) nd 32, .int .u64 u] w _ := fmt10_call blk nd 32 u w hnd hu (fun j hj => hz j (by omega))
  have Hcall := Lib.hid hcall
  have Hz := Lib.hid hz
  have Hnd := Lib.hid hnd
  clear hcall hz hnd
  go_enter Tryz.func223, Tryz.ntmps223
  go_wp2_with fail
  refine Hcall.out.mono ?_
  rintro e w1 ⟨rfl, hc, ho, hf, hkk, hs, hB⟩
  have Hkk := Lib.hid hkk
  clear hkk
  have Hc := Lib.hid hc
  have Ho := Lib.hid ho
  have Hf := Lib.hid hf
  clear hc ho hf
  go_wp2_with fail
  go_loop [3] (fun vn => ∃ v : Nat, vn = .int .i64 v ∧ v ≤ nd ∧ Hid (keptD (Lib.decDigits u) v = keptD (Lib.decDigits u) nd)) (fun vn => (intOf vn).toNat)
  case atStart => exact ⟨nd, rfl, Nat.le_refl _, rfl⟩
  case round =>
    obtain ⟨v, rfl, hv, hk⟩ := hrel
    by_cases h0 : v = 0
    · subst h0
      go_wp2_with fail
      go_ret2
      refine ⟨?_, Hc.out, Hkk.out, hs, hB⟩
      have hk0 : keptD (Lib.decDigits u) nd = 0 := by rw [← hk]; rfl
      rw [hk0]
      rfl
    · obtain ⟨k, rfl⟩ : ∃ k, v = k + 1 := ⟨v - 1, by omega⟩
      have hlen : k < (Lib.decDigits u).length := by rw [Lib.decDigits_length, ← Hnd.out]; omega
      have hcell := Hc.out k hlen
      obtain ⟨c, hcd⟩ : ∃ c : Int, ((Lib.decDigits u)[k].toNat : Int) = c := ⟨_, rfl⟩
      rw [hcd] at hcell
      have Hcd := Lib.hid hcd
      clear hcd
      go_wp2_with fail
      · refine ⟨⟨k, rfl, by omega, ?_⟩, by simp only [intOf]; omega⟩
        show keptD (Lib.decDigits u) k = keptD (Lib.decDigits u) nd
        have hc : c = 48 := by rename_i hcc; simpa using hcc
        have h1 : keptD (Lib.decDigits u) (k + 1) = keptD (Lib.decDigits u) k := keptD_nought hlen (by have := Hcd.out; omega)
        rw [← hk, h1]
      · go_ret2
        refine ⟨?_, Hc.out, Hkk.out, hs, hB⟩
        have hc : c ≠ 48 := by
          have hcc : (c == 48) = false := by assumption
          simpa using hcc
        have h1 : keptD (Lib.decDigits u) (k + 1) = k + 1 := keptD_other hlen (by have := Hcd.out; omega)
        rw [← show keptD (Lib.decDigits u) (k + 1) = keptD (Lib.decDigits u) nd from hk, h1]
        rfl
open Go Go.RowKit Go.Sort
set_option maxRecDepth 100000
def dig (n : Nat) : UInt8 := UInt8.ofNat (48 + n)
def expD (k : Nat) : List UInt8 := if k < 10 then [48, dig k] else if k < 100 then [dig (k / 10), dig (k % 10)] else [dig (k / 100), dig (k / 10 % 10), dig (k % 10)]
def pointed : List UInt8 → List UInt8
  | [] => []
  | [c] => [c]
  | c :: d :: r => c :: 46 :: d :: r
def eText (l : List UInt8) (E : Int) : List UInt8 := pointed l ++ 101 :: (if E < 0 then 45 else 43) :: expD E.natAbs
theorem info5 : (Tryz.prog.info? 5).map (fun i => (i.zero, i.size, i.bytes)) = some (some (.int .u8 0), 1, 1) := by kernel_rfl
theorem dig_cell {k : Nat} (h : k < 10) : ((dig k).toNat : Int) = (k : Int) + 48 := by
  unfold dig
  rw [UInt8.toNat_ofNat']
  omega
theorem cells_one' {l : List UInt8} : ∀ u ∈ Lib.byteCells l, u.oneCell' = true := by
  intro u hu
  simp only [Lib.byteCells, List.mem_map] at hu
  obtain ⟨b, _, rfl⟩ := hu
  rfl
theorem cellsB {w w2 : World} {blk : Nat} {l : List UInt8} (hc : ∀ j (hj : j < l.length), w.cell? ⟨blk, 1 + j, none⟩ = some (.int .u8 (l[j].toNat : Int))) (hk : Lib.OthersKept 5 none w w2)
    (hkind : ∃ arr fz, w.heap[blk]? = some (.cells arr 259 fz)) : ∀ j u, (Lib.byteCells l)[j]? = some u → w2.cell? ((⟨blk, 1, none⟩ : Addr).add j) = some u := by
  intro j u hj
  obtain ⟨arr, fz, hb⟩ := hkind
  have hkb := hk blk _ hb (by simp) (fun c fz' h => by injection h with _ h2 _; exact absurd h2 (by decide))
  have hjl : j < l.length := by
    have h5 := (List.getElem?_eq_some_iff.1 hj).1
    rwa [Lib.byteCells_length] at h5
  have e5 : (Lib.byteCells l)[j]? = some (Value.int .u8 (l[j].toNat : Int)) := by simp [Lib.byteCells, hjl]
  rw [e5] at hj
  cases hj
  rw [Lib.add_plain, World.cell?_of_block (w := w) (by show w2.heap[blk]? = w.heap[blk]?; rw [hkb, hb])]
  exact hc j hjl
theorem e_pos1 {l : List UInt8} {dp : Int} {K : Nat} (hE : dp - 1 = (K : Int)) (hK : K < 10) : Lib.byteCells (eText l (dp - 1)) = Lib.byteCells (pointed l) ++ [Value.int .u8 101, Value.int .u8 43, Value.int .u8 48, Value.int .u8 ((K : Int) + 48)] := by
  unfold eText expD
  rw [show (dp - 1).natAbs = K by omega, if_neg (show ¬ dp - 1 < 0 by omega)]
  rw [if_pos hK]
  simp only [Lib.byteCells, List.map_append, List.map_cons, List.map_nil, dig_cell hK]
  rfl
theorem e_pos2 {l : List UInt8} {dp : Int} {K : Nat} (hE : dp - 1 = (K : Int)) (hK0 : 10 ≤ K) (hK : K < 100) : Lib.byteCells (eText l (dp - 1)) = Lib.byteCells (pointed l) ++ [Value.int .u8 101, Value.int .u8 43, Value.int .u8 ((K : Int) / 10 + 48), Value.int .u8 ((K : Int) % 10 + 48)] := by
  unfold eText expD
  rw [show (dp - 1).natAbs = K by omega, if_neg (show ¬ dp - 1 < 0 by omega)]
  rw [if_neg (by omega), if_pos hK]
  simp only [Lib.byteCells, List.map_append, List.map_cons, List.map_nil, dig_cell (k := K / 10) (by omega), dig_cell (k := K % 10) (by omega)]
  rfl
theorem e_pos3 {l : List UInt8} {dp : Int} {K : Nat} (hE : dp - 1 = (K : Int)) (hK0 : 100 ≤ K) (hK : K < 1000) : Lib.byteCells (eText l (dp - 1)) = Lib.byteCells (pointed l) ++ [Value.int .u8 101, Value.int .u8 43, Value.int .u8 ((K : Int) / 100 + 48), Value.int .u8 ((K : Int) / 10 % 10 + 48), Value.int .u8 ((K : Int) % 10 + 48)] := by
  unfold eText expD
  rw [show (dp - 1).natAbs = K by omega, if_neg (show ¬ dp - 1 < 0 by omega)]
  rw [if_neg (by omega), if_neg (by omega)]
  simp only [Lib.byteCells, List.map_append, List.map_cons, List.map_nil, dig_cell (k := K / 100) (by omega), dig_cell (k := K / 10 % 10) (by omega), dig_cell (k := K % 10) (by omega)]
  rfl
theorem e_neg1 {l : List UInt8} {dp : Int} {K : Nat} (hE : dp - 1 = -(K : Int)) (h1 : 1 ≤ K) (hK : K < 10) : Lib.byteCells (eText l (dp - 1)) = Lib.byteCells (pointed l) ++ [Value.int .u8 101, Value.int .u8 45, Value.int .u8 48, Value.int .u8 ((K : Int) + 48)] := by
  unfold eText expD
  rw [show (dp - 1).natAbs = K by omega, if_pos (show dp - 1 < 0 by omega)]
  rw [if_pos hK]
  simp only [Lib.byteCells, List.map_append, List.map_cons, List.map_nil, dig_cell hK]
  rfl
theorem e_neg2 {l : List UInt8} {dp : Int} {K : Nat} (hE : dp - 1 = -(K : Int)) (hK0 : 10 ≤ K) (hK : K < 100) : Lib.byteCells (eText l (dp - 1)) = Lib.byteCells (pointed l) ++ [Value.int .u8 101, Value.int .u8 45, Value.int .u8 ((K : Int) / 10 + 48), Value.int .u8 ((K : Int) % 10 + 48)] := by
  unfold eText expD
  rw [show (dp - 1).natAbs = K by omega, if_pos (show dp - 1 < 0 by omega)]
  rw [if_neg (by omega), if_pos hK]
  simp only [Lib.byteCells, List.map_append, List.map_cons, List.map_nil, dig_cell (k := K / 10) (by omega), dig_cell (k := K % 10) (by omega)]
  rfl
theorem e_neg3 {l : List UInt8} {dp : Int} {K : Nat} (hE : dp - 1 = -(K : Int)) (hK0 : 100 ≤ K) (hK : K < 1000) : Lib.byteCells (eText l (dp - 1)) = Lib.byteCells (pointed l) ++ [Value.int .u8 101, Value.int .u8 45, Value.int .u8 ((K : Int) / 100 + 48), Value.int .u8 ((K : Int) / 10 % 10 + 48), Value.int .u8 ((K : Int) % 10 + 48)] := by
  unfold eText expD
  rw [show (dp - 1).natAbs = K by omega, if_pos (show dp - 1 < 0 by omega)]
  rw [if_neg (by omega), if_neg (by omega)]
  simp only [Lib.byteCells, List.map_append, List.map_cons, List.map_nil, dig_cell (k := K / 100) (by omega), dig_cell (k := K / 10 % 10) (by omega), dig_cell (k := K % 10) (by omega)]
  rfl
open Go Go.RowKit Go.Sort
set_option maxRecDepth 100000
theorem fmtE_op1 (B blk : Nat) (c : UInt8) (dp : Int) (K : Nat) (hE : dp - 1 = (K : Int)) (hK : K < 10) (sv : Value) (w : World) (hB : B ≤ w.heap.size) (hown : w.ownsRow B 5 1 sv 0 [])
    (hc : w.cell? ⟨blk, 0, none⟩ = some (.int .u8 (c.toNat : Int))) :
    Calls Tryz.prog 221 #[sv, .bool false, .slice (some ⟨blk, 0, none⟩) 32 32, .int .i64 dp, .int .i64 1, .int .i64 0, .int .u8 101, .bool true] w fun e w' =>
      ∃ v' n, e = .returned v' ∧ w'.ownsRow B 5 1 v' n (Lib.byteCells (eText [c] (dp - 1))) ∧ Below B w w' := by
  obtain ⟨i0, hi, hz0, hz1, hz2⟩ := info_parts info5
  go_enter Tryz.func221, Tryz.ntmps221
  go_wp2_with (at_builtin; refine wpList_append_own _ rfl _ _ 98 rfl B 5 i0 (.int .u8 0) 1 1 Tryz.underlying98 hi hz0 hz1 hz2 rfl (by decide) _ _ _ rfl (hown.alloc _) ⟨w.heap.size, 0, none⟩ 1 1 [Value.int .u8 (c.toNat : Int)] rfl rfl (by intro j u' hj; match j, hj with | 0, hj => simp at hj; subst hj; simp [Addr.add]) (by intro u' hu'; simp at hu'; (first | (subst hu'; rfl) | (rcases hu' with rfl | rfl <;> rfl) | (rcases hu' with rfl | rfl | rfl <;> rfl))) (by unfold maxLen; omega) (by omega) (by simp; omega) ?_)
  intro v1 w1 hown1 hgrow1 _
  have hb1 : Below B w w1 := ((Below.refl B w).alloc (by omega) _).grown hgrow1 (by simp; omega) (fun k hk => (hown.lt k hk).1)
  have hk1 : Lib.OthersKept 5 none w w1 := ((Lib.OthersKept.refl 5 none w).alloc _).grown hgrow1 (Lib.ownsRow_kind (hown.alloc _))
  have hs1 := hb1.size
  go_wp2_with (at_builtin; refine wpList_append_own _ rfl _ _ 98 rfl B 5 i0 (.int .u8 0) 1 1 Tryz.underlying98 hi hz0 hz1 hz2 rfl (by decide) _ _ _ rfl (hown1.alloc _) ⟨w1.heap.size, 0, none⟩ 1 1 [Value.int .u8 101] rfl rfl (by intro j u' hj; match j, hj with | 0, hj => simp at hj; subst hj; simp [Addr.add]) (by intro u' hu'; simp at hu'; (first | (subst hu'; rfl) | (rcases hu' with rfl | rfl <;> rfl) | (rcases hu' with rfl | rfl | rfl <;> rfl))) (by unfold maxLen; omega) (by omega) (by simp; omega) ?_)
  intro v2 w2 hown2 hgrow2 _
  have hb2 : Below B w w2 := (hb1.alloc (by omega) _).grown hgrow2 (by simp; omega) (fun k hk => (hown1.lt k hk).1)
  have hk2 : Lib.OthersKept 5 none w w2 := (hk1.alloc _).grown hgrow2 (Lib.ownsRow_kind (hown1.alloc _))
  have hs2 := hb2.size
  go_wp2_with (at_builtin; refine wpList_append_own _ rfl _ _ 98 rfl B 5 i0 (.int .u8 0) 1 1 Tryz.underlying98 hi hz0 hz1 hz2 rfl (by decide) _ _ _ rfl (hown2.alloc _) ⟨w2.heap.size, 0, none⟩ 1 1 [Value.int .u8 43] rfl rfl (by intro j u' hj; match j, hj with | 0, hj => simp at hj; subst hj; simp [Addr.add]) (by intro u' hu'; simp at hu'; (first | (subst hu'; rfl) | (rcases hu' with rfl | rfl <;> rfl) | (rcases hu' with rfl | rfl | rfl <;> rfl))) (by unfold maxLen; omega) (by omega) (by simp; omega) ?_)
  intro v3 w3 hown3 hgrow3 _
  have hb3 : Below B w w3 := (hb2.alloc (by omega) _).grown hgrow3 (by simp; omega) (fun k hk => (hown2.lt k hk).1)
  have hk3 : Lib.OthersKept 5 none w w3 := (hk2.alloc _).grown hgrow3 (Lib.ownsRow_kind (hown2.alloc _))
  have hs3 := hb3.size
  go_wp2_with (at_builtin; refine wpList_append_own _ rfl _ _ 98 rfl B 5 i0 (.int .u8 0) 1 1 Tryz.underlying98 hi hz0 hz1 hz2 rfl (by decide) _ _ _ rfl (hown3.alloc _) ⟨w3.heap.size, 0, none⟩ 2 2 [Value.int .u8 48, Value.int .u8 ((K : Int) + 48)] rfl rfl (by intro j u' hj; match j, hj with | 0, hj => simp at hj; subst hj; simp [Addr.add] | 1, hj => simp at hj; subst hj; simp [Addr.add]) (by intro u' hu'; simp at hu'; (first | (subst hu'; rfl) | (rcases hu' with rfl | rfl <;> rfl) | (rcases hu' with rfl | rfl | rfl <;> rfl))) (by unfold maxLen; omega) (by omega) (by simp; omega) ?_)
  intro v4 w4 hown4 hgrow4 _
  have hb4 : Below B w w4 := (hb3.alloc (by omega) _).grown hgrow4 (by simp; omega) (fun k hk => (hown3.lt k hk).1)
  have hk4 : Lib.OthersKept 5 none w w4 := (hk3.alloc _).grown hgrow4 (Lib.ownsRow_kind (hown3.alloc _))
  have hs4 := hb4.size
  go_wp2_with fail
  go_ret
  refine ⟨v4, 0 + 1 + 1 + 1 + 2, rfl, ?_, hb4⟩
  have he : Lib.byteCells (eText [c] (dp - 1)) = _ := e_pos1 hE hK
  rw [he]
  simpa [Lib.byteCells, pointed] using hown4
theorem fmtE_op2 (B blk : Nat) (c : UInt8) (dp : Int) (K : Nat) (hE : dp - 1 = (K : Int)) (hK0 : 10 ≤ K) (hK : K < 100) (sv : Value) (w : World) (hB : B ≤ w.heap.size) (hown : w.ownsRow B 5 1 sv 0 [])
    (hc : w.cell? ⟨blk, 0, none⟩ = some (.int .u8 (c.toNat : Int))) :
    Calls Tryz.prog 221 #[sv, .bool false, .slice (some ⟨blk, 0, none⟩) 32 32, .int .i64 dp, .int .i64 1, .int .i64 0, .int .u8 101, .bool true] w fun e w' =>
      ∃ v' n, e = .returned v' ∧ w'.ownsRow B 5 1 v' n (Lib.byteCells (eText [c] (dp - 1))) ∧ Below B w w' := by
  obtain ⟨i0, hi, hz0, hz1, hz2⟩ := info_parts info5
  go_enter Tryz.func221, Tryz.ntmps221
  go_wp2_with (at_builtin; refine wpList_append_own _ rfl _ _ 98 rfl B 5 i0 (.int .u8 0) 1 1 Tryz.underlying98 hi hz0 hz1 hz2 rfl (by decide) _ _ _ rfl (hown.alloc _) ⟨w.heap.size, 0, none⟩ 1 1 [Value.int .u8 (c.toNat : Int)] rfl rfl (by intro j u' hj; match j, hj with | 0, hj => simp at hj; subst hj; simp [Addr.add]) (by intro u' hu'; simp at hu'; (first | (subst hu'; rfl) | (rcases hu' with rfl | rfl <;> rfl) | (rcases hu' with rfl | rfl | rfl <;> rfl))) (by unfold maxLen; omega) (by omega) (by simp; omega) ?_)
  intro v1 w1 hown1 hgrow1 _
  have hb1 : Below B w w1 := ((Below.refl B w).alloc (by omega) _).grown hgrow1 (by simp; omega) (fun k hk => (hown.lt k hk).1)
  have hk1 : Lib.OthersKept 5 none w w1 := ((Lib.OthersKept.refl 5 none w).alloc _).grown hgrow1 (Lib.ownsRow_kind (hown.alloc _))
  have hs1 := hb1.size
  go_wp2_with (at_builtin; refine wpList_append_own _ rfl _ _ 98 rfl B 5 i0 (.int .u8 0) 1 1 Tryz.underlying98 hi hz0 hz1 hz2 rfl (by decide) _ _ _ rfl (hown1.alloc _) ⟨w1.heap.size, 0, none⟩ 1 1 [Value.int .u8 101] rfl rfl (by intro j u' hj; match j, hj with | 0, hj => simp at hj; subst hj; simp [Addr.add]) (by intro u' hu'; simp at hu'; (first | (subst hu'; rfl) | (rcases hu' with rfl | rfl <;> rfl) | (rcases hu' with rfl | rfl | rfl <;> rfl))) (by unfold maxLen; omega) (by omega) (by simp; omega) ?_)
  intro v2 w2 hown2 hgrow2 _
  have hb2 : Below B w w2 := (hb1.alloc (by omega) _).grown hgrow2 (by simp; omega) (fun k hk => (hown1.lt k hk).1)
  have hk2 : Lib.OthersKept 5 none w w2 := (hk1.alloc _).grown hgrow2 (Lib.ownsRow_kind (hown1.alloc _))
  have hs2 := hb2.size
  go_wp2_with (at_builtin; refine wpList_append_own _ rfl _ _ 98 rfl B 5 i0 (.int .u8 0) 1 1 Tryz.underlying98 hi hz0 hz1 hz2 rfl (by decide) _ _ _ rfl (hown2.alloc _) ⟨w2.heap.size, 0, none⟩ 1 1 [Value.int .u8 43] rfl rfl (by intro j u' hj; match j, hj with | 0, hj => simp at hj; subst hj; simp [Addr.add]) (by intro u' hu'; simp at hu'; (first | (subst hu'; rfl) | (rcases hu' with rfl | rfl <;> rfl) | (rcases hu' with rfl | rfl | rfl <;> rfl))) (by unfold maxLen; omega) (by omega) (by simp; omega) ?_)
  intro v3 w3 hown3 hgrow3 _
  have hb3 : Below B w w3 := (hb2.alloc (by omega) _).grown hgrow3 (by simp; omega) (fun k hk => (hown2.lt k hk).1)
  have hk3 : Lib.OthersKept 5 none w w3 := (hk2.alloc _).grown hgrow3 (Lib.ownsRow_kind (hown2.alloc _))
  have hs3 := hb3.size
  go_wp2_with (at_builtin; refine wpList_append_own _ rfl _ _ 98 rfl B 5 i0 (.int .u8 0) 1 1 Tryz.underlying98 hi hz0 hz1 hz2 rfl (by decide) _ _ _ rfl (hown3.alloc _) ⟨w3.heap.size, 0, none⟩ 2 2 [Value.int .u8 ((K : Int) / 10 + 48), Value.int .u8 ((K : Int) % 10 + 48)] rfl rfl (by intro j u' hj; match j, hj with | 0, hj => simp at hj; subst hj; simp [Addr.add] | 1, hj => simp at hj; subst hj; simp [Addr.add]) (by intro u' hu'; simp at hu'; (first | (subst hu'; rfl) | (rcases hu' with rfl | rfl <;> rfl) | (rcases hu' with rfl | rfl | rfl <;> rfl))) (by unfold maxLen; omega) (by omega) (by simp; omega) ?_)
  intro v4 w4 hown4 hgrow4 _
  have hb4 : Below B w w4 := (hb3.alloc (by omega) _).grown hgrow4 (by simp; omega) (fun k hk => (hown3.lt k hk).1)
  have hk4 : Lib.OthersKept 5 none w w4 := (hk3.alloc _).grown hgrow4 (Lib.ownsRow_kind (hown3.alloc _))
  have hs4 := hb4.size
  go_wp2_with fail
  go_ret
  refine ⟨v4, 0 + 1 + 1 + 1 + 2, rfl, ?_, hb4⟩
  have he : Lib.byteCells (eText [c] (dp - 1)) = _ := e_pos2 hE hK0 hK
  rw [he]
  simpa [Lib.byteCells, pointed] using hown4
theorem fmtE_op3 (B blk : Nat) (c : UInt8) (dp : Int) (K : Nat) (hE : dp - 1 = (K : Int)) (hK0 : 100 ≤ K) (hK : K < 1000) (sv : Value) (w : World) (hB : B ≤ w.heap.size) (hown : w.ownsRow B 5 1 sv 0 [])
    (hc : w.cell? ⟨blk, 0, none⟩ = some (.int .u8 (c.toNat : Int))) :
    Calls Tryz.prog 221 #[sv, .bool false, .slice (some ⟨blk, 0, none⟩) 32 32, .int .i64 dp, .int .i64 1, .int .i64 0, .int .u8 101, .bool true] w fun e w' =>
      ∃ v' n, e = .returned v' ∧ w'.ownsRow B 5 1 v' n (Lib.byteCells (eText [c] (dp - 1))) ∧ Below B w w' := by
  obtain ⟨i0, hi, hz0, hz1, hz2⟩ := info_parts info5
  go_enter Tryz.func221, Tryz.ntmps221
  go_wp2_with (at_builtin; refine wpList_append_own _ rfl _ _ 98 rfl B 5 i0 (.int .u8 0) 1 1 Tryz.underlying98 hi hz0 hz1 hz2 rfl (by decide) _ _ _ rfl (hown.alloc _) ⟨w.heap.size, 0, none⟩ 1 1 [Value.int .u8 (c.toNat : Int)] rfl rfl (by intro j u' hj; match j, hj with | 0, hj => simp at hj; subst hj; simp [Addr.add]) (by intro u' hu'; simp at hu'; (first | (subst hu'; rfl) | (rcases hu' with rfl | rfl <;> rfl) | (rcases hu' with rfl | rfl | rfl <;> rfl))) (by unfold maxLen; omega) (by omega) (by simp; omega) ?_)
  intro v1 w1 hown1 hgrow1 _
  have hb1 : Below B w w1 := ((Below.refl B w).alloc (by omega) _).grown hgrow1 (by simp; omega) (fun k hk => (hown.lt k hk).1)
  have hk1 : Lib.OthersKept 5 none w w1 := ((Lib.OthersKept.refl 5 none w).alloc _).grown hgrow1 (Lib.ownsRow_kind (hown.alloc _))
  have hs1 := hb1.size
  go_wp2_with (at_builtin; refine wpList_append_own _ rfl _ _ 98 rfl B 5 i0 (.int .u8 0) 1 1 Tryz.underlying98 hi hz0 hz1 hz2 rfl (by decide) _ _ _ rfl (hown1.alloc _) ⟨w1.heap.size, 0, none⟩ 1 1 [Value.int .u8 101] rfl rfl (by intro j u' hj; match j, hj with | 0, hj => simp at hj; subst hj; simp [Addr.add]) (by intro u' hu'; simp at hu'; (first | (subst hu'; rfl) | (rcases hu' with rfl | rfl <;> rfl) | (rcases hu' with rfl | rfl | rfl <;> rfl))) (by unfold maxLen; omega) (by omega) (by simp; omega) ?_)
  intro v2 w2 hown2 hgrow2 _
  have hb2 : Below B w w2 := (hb1.alloc (by omega) _).grown hgrow2 (by simp; omega) (fun k hk => (hown1.lt k hk).1)
  have hk2 : Lib.OthersKept 5 none w w2 := (hk1.alloc _).grown hgrow2 (Lib.ownsRow_kind (hown1.alloc _))
  have hs2 := hb2.size
  go_wp2_with (at_builtin; refine wpList_append_own _ rfl _ _ 98 rfl B 5 i0 (.int .u8 0) 1 1 Tryz.underlying98 hi hz0 hz1 hz2 rfl (by decide) _ _ _ rfl (hown2.alloc _) ⟨w2.heap.size, 0, none⟩ 1 1 [Value.int .u8 43] rfl rfl (by intro j u' hj; match j, hj with | 0, hj => simp at hj; subst hj; simp [Addr.add]) (by intro u' hu'; simp at hu'; (first | (subst hu'; rfl) | (rcases hu' with rfl | rfl <;> rfl) | (rcases hu' with rfl | rfl | rfl <;> rfl))) (by unfold maxLen; omega) (by omega) (by simp; omega) ?_)
  intro v3 w3 hown3 hgrow3 _
  have hb3 : Below B w w3 := (hb2.alloc (by omega) _).grown hgrow3 (by simp; omega) (fun k hk => (hown2.lt k hk).1)
  have hk3 : Lib.OthersKept 5 none w w3 := (hk2.alloc _).grown hgrow3 (Lib.ownsRow_kind (hown2.alloc _))
  have hs3 := hb3.size
  go_wp2_with (at_builtin; refine wpList_append_own _ rfl _ _ 98 rfl B 5 i0 (.int .u8 0) 1 1 Tryz.underlying98 hi hz0 hz1 hz2 rfl (by decide) _ _ _ rfl (hown3.alloc _) ⟨w3.heap.size, 0, none⟩ 3 3 [Value.int .u8 ((K : Int) / 100 + 48), Value.int .u8 ((K : Int) / 10 % 10 + 48), Value.int .u8 ((K : Int) % 10 + 48)] rfl rfl (by intro j u' hj; match j, hj with | 0, hj => simp at hj; subst hj; simp [Addr.add] | 1, hj => simp at hj; subst hj; simp [Addr.add] | 2, hj => simp at hj; subst hj; simp [Addr.add]) (by intro u' hu'; simp at hu'; (first | (subst hu'; rfl) | (rcases hu' with rfl | rfl <;> rfl) | (rcases hu' with rfl | rfl | rfl <;> rfl))) (by unfold maxLen; omega) (by omega) (by simp; omega) ?_)
  intro v4 w4 hown4 hgrow4 _
  have hb4 : Below B w w4 := (hb3.alloc (by omega) _).grown hgrow4 (by simp; omega) (fun k hk => (hown3.lt k hk).1)
  have hk4 : Lib.OthersKept 5 none w w4 := (hk3.alloc _).grown hgrow4 (Lib.ownsRow_kind (hown3.alloc _))
  have hs4 := hb4.size
  go_wp2_with fail
  go_ret
  refine ⟨v4, 0 + 1 + 1 + 1 + 3, rfl, ?_, hb4⟩
  have he : Lib.byteCells (eText [c] (dp - 1)) = _ := e_pos3 hE hK0 hK
  rw [he]
  simpa [Lib.byteCells, pointed] using hown4
theorem fmtE_on1 (B blk : Nat) (c : UInt8) (dp : Int) (K : Nat) (hE : dp - 1 = -(K : Int)) (hK1 : 1 ≤ K) (hK : K < 10) (sv : Value) (w : World) (hB : B ≤ w.heap.size) (hown : w.ownsRow B 5 1 sv 0 [])
    (hc : w.cell? ⟨blk, 0, none⟩ = some (.int .u8 (c.toNat : Int))) :
    Calls Tryz.prog 221 #[sv, .bool false, .slice (some ⟨blk, 0, none⟩) 32 32, .int .i64 dp, .int .i64 1, .int .i64 0, .int .u8 101, .bool true] w fun e w' =>
      ∃ v' n, e = .returned v' ∧ w'.ownsRow B 5 1 v' n (Lib.byteCells (eText [c] (dp - 1))) ∧ Below B w w' := by
  obtain ⟨i0, hi, hz0, hz1, hz2⟩ := info_parts info5
  go_enter Tryz.func221, Tryz.ntmps221
  go_wp2_with (at_builtin; refine wpList_append_own _ rfl _ _ 98 rfl B 5 i0 (.int .u8 0) 1 1 Tryz.underlying98 hi hz0 hz1 hz2 rfl (by decide) _ _ _ rfl (hown.alloc _) ⟨w.heap.size, 0, none⟩ 1 1 [Value.int .u8 (c.toNat : Int)] rfl rfl (by intro j u' hj; match j, hj with | 0, hj => simp at hj; subst hj; simp [Addr.add]) (by intro u' hu'; simp at hu'; (first | (subst hu'; rfl) | (rcases hu' with rfl | rfl <;> rfl) | (rcases hu' with rfl | rfl | rfl <;> rfl))) (by unfold maxLen; omega) (by omega) (by simp; omega) ?_)
  intro v1 w1 hown1 hgrow1 _
  have hb1 : Below B w w1 := ((Below.refl B w).alloc (by omega) _).grown hgrow1 (by simp; omega) (fun k hk => (hown.lt k hk).1)
  have hk1 : Lib.OthersKept 5 none w w1 := ((Lib.OthersKept.refl 5 none w).alloc _).grown hgrow1 (Lib.ownsRow_kind (hown.alloc _))
  have hs1 := hb1.size
  go_wp2_with (at_builtin; refine wpList_append_own _ rfl _ _ 98 rfl B 5 i0 (.int .u8 0) 1 1 Tryz.underlying98 hi hz0 hz1 hz2 rfl (by decide) _ _ _ rfl (hown1.alloc _) ⟨w1.heap.size, 0, none⟩ 1 1 [Value.int .u8 101] rfl rfl (by intro j u' hj; match j, hj with | 0, hj => simp at hj; subst hj; simp [Addr.add]) (by intro u' hu'; simp at hu'; (first | (subst hu'; rfl) | (rcases hu' with rfl | rfl <;> rfl) | (rcases hu' with rfl | rfl | rfl <;> rfl))) (by unfold maxLen; omega) (by omega) (by simp; omega) ?_)
  intro v2 w2 hown2 hgrow2 _
  have hb2 : Below B w w2 := (hb1.alloc (by omega) _).grown hgrow2 (by simp; omega) (fun k hk => (hown1.lt k hk).1)
  have hk2 : Lib.OthersKept 5 none w w2 := (hk1.alloc _).grown hgrow2 (Lib.ownsRow_kind (hown1.alloc _))
  have hs2 := hb2.size
  go_wp2_with (at_builtin; refine wpList_append_own _ rfl _ _ 98 rfl B 5 i0 (.int .u8 0) 1 1 Tryz.underlying98 hi hz0 hz1 hz2 rfl (by decide) _ _ _ rfl (hown2.alloc _) ⟨w2.heap.size, 0, none⟩ 1 1 [Value.int .u8 45] rfl rfl (by intro j u' hj; match j, hj with | 0, hj => simp at hj; subst hj; simp [Addr.add]) (by intro u' hu'; simp at hu'; (first | (subst hu'; rfl) | (rcases hu' with rfl | rfl <;> rfl) | (rcases hu' with rfl | rfl | rfl <;> rfl))) (by unfold maxLen; omega) (by omega) (by simp; omega) ?_)
  intro v3 w3 hown3 hgrow3 _
  have hb3 : Below B w w3 := (hb2.alloc (by omega) _).grown hgrow3 (by simp; omega) (fun k hk => (hown2.lt k hk).1)
  have hk3 : Lib.OthersKept 5 none w w3 := (hk2.alloc _).grown hgrow3 (Lib.ownsRow_kind (hown2.alloc _))
  have hs3 := hb3.size
  go_wp2_with (at_builtin; refine wpList_append_own _ rfl _ _ 98 rfl B 5 i0 (.int .u8 0) 1 1 Tryz.underlying98 hi hz0 hz1 hz2 rfl (by decide) _ _ _ rfl (hown3.alloc _) ⟨w3.heap.size, 0, none⟩ 2 2 [Value.int .u8 48, Value.int .u8 ((K : Int) + 48)] rfl rfl (by intro j u' hj; match j, hj with | 0, hj => simp at hj; subst hj; simp [Addr.add] | 1, hj => simp at hj; subst hj; simp [Addr.add]) (by intro u' hu'; simp at hu'; (first | (subst hu'; rfl) | (rcases hu' with rfl | rfl <;> rfl) | (rcases hu' with rfl | rfl | rfl <;> rfl))) (by unfold maxLen; omega) (by omega) (by simp; omega) ?_)
  intro v4 w4 hown4 hgrow4 _
  have hb4 : Below B w w4 := (hb3.alloc (by omega) _).grown hgrow4 (by simp; omega) (fun k hk => (hown3.lt k hk).1)
  have hk4 : Lib.OthersKept 5 none w w4 := (hk3.alloc _).grown hgrow4 (Lib.ownsRow_kind (hown3.alloc _))
  have hs4 := hb4.size
  go_wp2_with fail
  go_ret
  refine ⟨v4, 0 + 1 + 1 + 1 + 2, rfl, ?_, hb4⟩
  have he : Lib.byteCells (eText [c] (dp - 1)) = _ := e_neg1 hE hK1 hK
  rw [he]
  simpa [Lib.byteCells, pointed] using hown4
theorem fmtE_on2 (B blk : Nat) (c : UInt8) (dp : Int) (K : Nat) (hE : dp - 1 = -(K : Int)) (hK1 : 1 ≤ K) (hK0 : 10 ≤ K) (hK : K < 100) (sv : Value) (w : World) (hB : B ≤ w.heap.size) (hown : w.ownsRow B 5 1 sv 0 [])
    (hc : w.cell? ⟨blk, 0, none⟩ = some (.int .u8 (c.toNat : Int))) :
    Calls Tryz.prog 221 #[sv, .bool false, .slice (some ⟨blk, 0, none⟩) 32 32, .int .i64 dp, .int .i64 1, .int .i64 0, .int .u8 101, .bool true] w fun e w' =>
      ∃ v' n, e = .returned v' ∧ w'.ownsRow B 5 1 v' n (Lib.byteCells (eText [c] (dp - 1))) ∧ Below B w w' := by
  obtain ⟨i0, hi, hz0, hz1, hz2⟩ := info_parts info5
  go_enter Tryz.func221, Tryz.ntmps221
  go_wp2_with (at_builtin; refine wpList_append_own _ rfl _ _ 98 rfl B 5 i0 (.int .u8 0) 1 1 Tryz.underlying98 hi hz0 hz1 hz2 rfl (by decide) _ _ _ rfl (hown.alloc _) ⟨w.heap.size, 0, none⟩ 1 1 [Value.int .u8 (c.toNat : Int)] rfl rfl (by intro j u' hj; match j, hj with | 0, hj => simp at hj; subst hj; simp [Addr.add]) (by intro u' hu'; simp at hu'; (first | (subst hu'; rfl) | (rcases hu' with rfl | rfl <;> rfl) | (rcases hu' with rfl | rfl | rfl <;> rfl))) (by unfold maxLen; omega) (by omega) (by simp; omega) ?_)
  intro v1 w1 hown1 hgrow1 _
  have hb1 : Below B w w1 := ((Below.refl B w).alloc (by omega) _).grown hgrow1 (by simp; omega) (fun k hk => (hown.lt k hk).1)
  have hk1 : Lib.OthersKept 5 none w w1 := ((Lib.OthersKept.refl 5 none w).alloc _).grown hgrow1 (Lib.ownsRow_kind (hown.alloc _))
  have hs1 := hb1.size
  go_wp2_with (at_builtin; refine wpList_append_own _ rfl _ _ 98 rfl B 5 i0 (.int .u8 0) 1 1 Tryz.underlying98 hi hz0 hz1 hz2 rfl (by decide) _ _ _ rfl (hown1.alloc _) ⟨w1.heap.size, 0, none⟩ 1 1 [Value.int .u8 101] rfl rfl (by intro j u' hj; match j, hj with | 0, hj => simp at hj; subst hj; simp [Addr.add]) (by intro u' hu'; simp at hu'; (first | (subst hu'; rfl) | (rcases hu' with rfl | rfl <;> rfl) | (rcases hu' with rfl | rfl | rfl <;> rfl))) (by unfold maxLen; omega) (by omega) (by simp; omega) ?_)
  intro v2 w2 hown2 hgrow2 _
  have hb2 : Below B w w2 := (hb1.alloc (by omega) _).grown hgrow2 (by simp; omega) (fun k hk => (hown1.lt k hk).1)
  have hk2 : Lib.OthersKept 5 none w w2 := (hk1.alloc _).grown hgrow2 (Lib.ownsRow_kind (hown1.alloc _))
  have hs2 := hb2.size
  go_wp2_with (at_builtin; refine wpList_append_own _ rfl _ _ 98 rfl B 5 i0 (.int .u8 0) 1 1 Tryz.underlying98 hi hz0 hz1 hz2 rfl (by decide) _ _ _ rfl (hown2.alloc _) ⟨w2.heap.size, 0, none⟩ 1 1 [Value.int .u8 45] rfl rfl (by intro j u' hj; match j, hj with | 0, hj => simp at hj; subst hj; simp [Addr.add]) (by intro u' hu'; simp at hu'; (first | (subst hu'; rfl) | (rcases hu' with rfl | rfl <;> rfl) | (rcases hu' with rfl | rfl | rfl <;> rfl))) (by unfold maxLen; omega) (by omega) (by simp; omega) ?_)
  intro v3 w3 hown3 hgrow3 _
  have hb3 : Below B w w3 := (hb2.alloc (by omega) _).grown hgrow3 (by simp; omega) (fun k hk => (hown2.lt k hk).1)
  have hk3 : Lib.OthersKept 5 none w w3 := (hk2.alloc _).grown hgrow3 (Lib.ownsRow_kind (hown2.alloc _))
  have hs3 := hb3.size
  go_wp2_with (at_builtin; refine wpList_append_own _ rfl _ _ 98 rfl B 5 i0 (.int .u8 0) 1 1 Tryz.underlying98 hi hz0 hz1 hz2 rfl (by decide) _ _ _ rfl (hown3.alloc _) ⟨w3.heap.size, 0, none⟩ 2 2 [Value.int .u8 ((K : Int) / 10 + 48), Value.int .u8 ((K : Int) % 10 + 48)] rfl rfl (by intro j u' hj; match j, hj with | 0, hj => simp at hj; subst hj; simp [Addr.add] | 1, hj => simp at hj; subst hj; simp [Addr.add]) (by intro u' hu'; simp at hu'; (first | (subst hu'; rfl) | (rcases hu' with rfl | rfl <;> rfl) | (rcases hu' with rfl | rfl | rfl <;> rfl))) (by unfold maxLen; omega) (by omega) (by simp; omega) ?_)
  intro v4 w4 hown4 hgrow4 _
  have hb4 : Below B w w4 := (hb3.alloc (by omega) _).grown hgrow4 (by simp; omega) (fun k hk => (hown3.lt k hk).1)
  have hk4 : Lib.OthersKept 5 none w w4 := (hk3.alloc _).grown hgrow4 (Lib.ownsRow_kind (hown3.alloc _))
  have hs4 := hb4.size
  go_wp2_with fail
  go_ret
  refine ⟨v4, 0 + 1 + 1 + 1 + 2, rfl, ?_, hb4⟩
  have he : Lib.byteCells (eText [c] (dp - 1)) = _ := e_neg2 hE hK0 hK
  rw [he]
  simpa [Lib.byteCells, pointed] using hown4
theorem fmtE_on3 (B blk : Nat) (c : UInt8) (dp : Int) (K : Nat) (hE : dp - 1 = -(K : Int)) (hK1 : 1 ≤ K) (hK0 : 100 ≤ K) (hK : K < 1000) (sv : Value) (w : World) (hB : B ≤ w.heap.size) (hown : w.ownsRow B 5 1 sv 0 [])
    (hc : w.cell? ⟨blk, 0, none⟩ = some (.int .u8 (c.toNat : Int))) :
    Calls Tryz.prog 221 #[sv, .bool false, .slice (some ⟨blk, 0, none⟩) 32 32, .int .i64 dp, .int .i64 1, .int .i64 0, .int .u8 101, .bool true] w fun e w' =>
      ∃ v' n, e = .returned v' ∧ w'.ownsRow B 5 1 v' n (Lib.byteCells (eText [c] (dp - 1))) ∧ Below B w w' := by
  obtain ⟨i0, hi, hz0, hz1, hz2⟩ := info_parts info5
  go_enter Tryz.func221, Tryz.ntmps221
  go_wp2_with (at_builtin; refine wpList_append_own _ rfl _ _ 98 rfl B 5 i0 (.int .u8 0) 1 1 Tryz.underlying98 hi hz0 hz1 hz2 rfl (by decide) _ _ _ rfl (hown.alloc _) ⟨w.heap.size, 0, none⟩ 1 1 [Value.int .u8 (c.toNat : Int)] rfl rfl (by intro j u' hj; match j, hj with | 0, hj => simp at hj; subst hj; simp [Addr.add]) (by intro u' hu'; simp at hu'; (first | (subst hu'; rfl) | (rcases hu' with rfl | rfl <;> rfl) | (rcases hu' with rfl | rfl | rfl <;> rfl))) (by unfold maxLen; omega) (by omega) (by simp; omega) ?_)
  intro v1 w1 hown1 hgrow1 _
  have hb1 : Below B w w1 := ((Below.refl B w).alloc (by omega) _).grown hgrow1 (by simp; omega) (fun k hk => (hown.lt k hk).1)
  have hk1 : Lib.OthersKept 5 none w w1 := ((Lib.OthersKept.refl 5 none w).alloc _).grown hgrow1 (Lib.ownsRow_kind (hown.alloc _))
  have hs1 := hb1.size
  go_wp2_with (at_builtin; refine wpList_append_own _ rfl _ _ 98 rfl B 5 i0 (.int .u8 0) 1 1 Tryz.underlying98 hi hz0 hz1 hz2 rfl (by decide) _ _ _ rfl (hown1.alloc _) ⟨w1.heap.size, 0, none⟩ 1 1 [Value.int .u8 101] rfl rfl (by intro j u' hj; match j, hj with | 0, hj => simp at hj; subst hj; simp [Addr.add]) (by intro u' hu'; simp at hu'; (first | (subst hu'; rfl) | (rcases hu' with rfl | rfl <;> rfl) | (rcases hu' with rfl | rfl | rfl <;> rfl))) (by unfold maxLen; omega) (by omega) (by simp; omega) ?_)
  intro v2 w2 hown2 hgrow2 _
  have hb2 : Below B w w2 := (hb1.alloc (by omega) _).grown hgrow2 (by simp; omega) (fun k hk => (hown1.lt k hk).1)
  have hk2 : Lib.OthersKept 5 none w w2 := (hk1.alloc _).grown hgrow2 (Lib.ownsRow_kind (hown1.alloc _))
  have hs2 := hb2.size
  go_wp2_with (at_builtin; refine wpList_append_own _ rfl _ _ 98 rfl B 5 i0 (.int .u8 0) 1 1 Tryz.underlying98 hi hz0 hz1 hz2 rfl (by decide) _ _ _ rfl (hown2.alloc _) ⟨w2.heap.size, 0, none⟩ 1 1 [Value.int .u8 45] rfl rfl (by intro j u' hj; match j, hj with | 0, hj => simp at hj; subst hj; simp [Addr.add]) (by intro u' hu'; simp at hu'; (first | (subst hu'; rfl) | (rcases hu' with rfl | rfl <;> rfl) | (rcases hu' with rfl | rfl | rfl <;> rfl))) (by unfold maxLen; omega) (by omega) (by simp; omega) ?_)
  intro v3 w3 hown3 hgrow3 _
  have hb3 : Below B w w3 := (hb2.alloc (by omega) _).grown hgrow3 (by simp; omega) (fun k hk => (hown2.lt k hk).1)
  have hk3 : Lib.OthersKept 5 none w w3 := (hk2.alloc _).grown hgrow3 (Lib.ownsRow_kind (hown2.alloc _))
  have hs3 := hb3.size
  go_wp2_with (at_builtin; refine wpList_append_own _ rfl _ _ 98 rfl B 5 i0 (.int .u8 0) 1 1 Tryz.underlying98 hi hz0 hz1 hz2 rfl (by decide) _ _ _ rfl (hown3.alloc _) ⟨w3.heap.size, 0, none⟩ 3 3 [Value.int .u8 ((K : Int) / 100 + 48), Value.int .u8 ((K : Int) / 10 % 10 + 48), Value.int .u8 ((K : Int) % 10 + 48)] rfl rfl (by intro j u' hj; match j, hj with | 0, hj => simp at hj; subst hj; simp [Addr.add] | 1, hj => simp at hj; subst hj; simp [Addr.add] | 2, hj => simp at hj; subst hj; simp [Addr.add]) (by intro u' hu'; simp at hu'; (first | (subst hu'; rfl) | (rcases hu' with rfl | rfl <;> rfl) | (rcases hu' with rfl | rfl | rfl <;> rfl))) (by unfold maxLen; omega) (by omega) (by simp; omega) ?_)
  intro v4 w4 hown4 hgrow4 _
  have hb4 : Below B w w4 := (hb3.alloc (by omega) _).grown hgrow4 (by simp; omega) (fun k hk => (hown3.lt k hk).1)
  have hk4 : Lib.OthersKept 5 none w w4 := (hk3.alloc _).grown hgrow4 (Lib.ownsRow_kind (hown3.alloc _))
  have hs4 := hb4.size
  go_wp2_with fail
  go_ret
  refine ⟨v4, 0 + 1 + 1 + 1 + 3, rfl, ?_, hb4⟩
  have he : Lib.byteCells (eText [c] (dp - 1)) = _ := e_neg3 hE hK0 hK
  rw [he]
  simpa [Lib.byteCells, pointed] using hown4
open Go Go.RowKit Go.Sort
set_option maxRecDepth 100000
theorem fmtE_mp1 (B blk : Nat) (c : UInt8) (dp : Int) (K : Nat) (hE : dp - 1 = (K : Int)) (hK : K < 10) (sv : Value) (w : World) (hB : B ≤ w.heap.size) (hown : w.ownsRow B 5 1 sv 0 [])
    (hc : w.cell? ⟨blk, 0, none⟩ = some (.int .u8 (c.toNat : Int))) (d : UInt8) (r : List UInt8) (hr : r.length ≤ 25) (hkind : ∃ arr fz, w.heap[blk]? = some (.cells arr 259 fz)) (hcs : ∀ j (hj : j < (d :: r).length), w.cell? ⟨blk, 1 + j, none⟩ = some (.int .u8 ((d :: r)[j].toNat : Int))) :
    Calls Tryz.prog 221 #[sv, .bool false, .slice (some ⟨blk, 0, none⟩) 32 32, .int .i64 dp, .int .i64 ((r.length : Int) + 2), .int .i64 ((r.length : Int) + 1), .int .u8 101, .bool true] w fun e w' =>
      ∃ v' n, e = .returned v' ∧ w'.ownsRow B 5 1 v' n (Lib.byteCells (eText (c :: d :: r) (dp - 1))) ∧ Below B w w' := by
  obtain ⟨i0, hi, hz0, hz1, hz2⟩ := info_parts info5
  have Hc := Lib.hid hcs
  have Hkind := Lib.hid hkind
  clear hcs hkind
  have hmin : min ((r.length : Int) + 2) ((r.length : Int) + 1 + 1) = (r.length : Int) + 2 := by omega
  have hto : ((r.length : Int) + 2).toNat = r.length + 2 := by omega
  go_enter Tryz.func221, Tryz.ntmps221
  go_wp2_with (at_builtin; refine wpList_append_own _ rfl _ _ 98 rfl B 5 i0 (.int .u8 0) 1 1 Tryz.underlying98 hi hz0 hz1 hz2 rfl (by decide) _ _ _ rfl (hown.alloc _) ⟨w.heap.size, 0, none⟩ 1 1 [Value.int .u8 (c.toNat : Int)] rfl rfl (by intro j u' hj; match j, hj with | 0, hj => simp at hj; subst hj; simp [Addr.add]) (by intro u' hu'; simp at hu'; (first | (subst hu'; rfl) | (rcases hu' with rfl | rfl <;> rfl) | (rcases hu' with rfl | rfl | rfl <;> rfl))) (by unfold maxLen; omega) (by omega) (by simp; omega) ?_)
  intro v1 w1 hown1 hgrow1 _
  have hb1 : Below B w w1 := ((Below.refl B w).alloc (by omega) _).grown hgrow1 (by simp; omega) (fun k hk => (hown.lt k hk).1)
  have hk1 : Lib.OthersKept 5 none w w1 := ((Lib.OthersKept.refl 5 none w).alloc _).grown hgrow1 (Lib.ownsRow_kind (hown.alloc _))
  have hs1 := hb1.size
  go_wp2_with (at_builtin; refine wpList_append_own _ rfl _ _ 98 rfl B 5 i0 (.int .u8 0) 1 1 Tryz.underlying98 hi hz0 hz1 hz2 rfl (by decide) _ _ _ rfl (hown1.alloc _) ⟨w1.heap.size, 0, none⟩ 1 1 [Value.int .u8 46] rfl rfl (by intro j u' hj; match j, hj with | 0, hj => simp at hj; subst hj; simp [Addr.add]) (by intro u' hu'; simp at hu'; (first | (subst hu'; rfl) | (rcases hu' with rfl | rfl <;> rfl) | (rcases hu' with rfl | rfl | rfl <;> rfl))) (by unfold maxLen; omega) (by omega) (by simp; omega) ?_)
  intro v2 w2 hown2 hgrow2 _
  have hb2 : Below B w w2 := (hb1.alloc (by omega) _).grown hgrow2 (by simp; omega) (fun k hk => (hown1.lt k hk).1)
  have hk2 : Lib.OthersKept 5 none w w2 := (hk1.alloc _).grown hgrow2 (Lib.ownsRow_kind (hown1.alloc _))
  have hs2 := hb2.size
  go_wp2_with (at_builtin; refine wpList_append_own _ rfl _ _ 98 rfl B 5 i0 (.int .u8 0) 1 1 Tryz.underlying98 hi hz0 hz1 hz2 rfl (by decide) _ _ _ rfl hown2 ⟨blk, 1, none⟩ (r.length + 1) 31 (Lib.byteCells (d :: r)) rfl (by rw [Lib.byteCells_length]; simp) (cellsB Hc.out hk2 Hkind.out) cells_one' (by unfold maxLen; omega) (by omega) (by omega) ?_)
  intro v3 w3 hown3 hgrow3 _
  have hb3 : Below B w w3 := hb2.grown hgrow3 (by omega) (fun k hk => (hown2.lt k hk).1)
  have hs3 := hb3.size
  go_wp2_with fail
  refine wp_loop_rounds 1 ?_
  rw [rounds_succ]
  go_wp2_with (at_builtin; refine wpList_append_own _ rfl _ _ 98 rfl B 5 i0 (.int .u8 0) 1 1 Tryz.underlying98 hi hz0 hz1 hz2 rfl (by decide) _ _ _ rfl (hown3.alloc _) ⟨w3.heap.size, 0, none⟩ 1 1 [Value.int .u8 101] rfl rfl (by intro j u' hj; match j, hj with | 0, hj => simp at hj; subst hj; simp [Addr.add]) (by intro u' hu'; simp at hu'; (first | (subst hu'; rfl) | (rcases hu' with rfl | rfl <;> rfl) | (rcases hu' with rfl | rfl | rfl <;> rfl))) (by unfold maxLen; omega) (by omega) (by simp; omega) ?_)
  intro v4 w4 hown4 hgrow4 _
  have hb4 : Below B w w4 := (hb3.alloc (by omega) _).grown hgrow4 (by simp; omega) (fun k hk => (hown3.lt k hk).1)
  have hs4 := hb4.size
  go_wp2_with (at_builtin; refine wpList_append_own _ rfl _ _ 98 rfl B 5 i0 (.int .u8 0) 1 1 Tryz.underlying98 hi hz0 hz1 hz2 rfl (by decide) _ _ _ rfl (hown4.alloc _) ⟨w4.heap.size, 0, none⟩ 1 1 [Value.int .u8 43] rfl rfl (by intro j u' hj; match j, hj with | 0, hj => simp at hj; subst hj; simp [Addr.add]) (by intro u' hu'; simp at hu'; (first | (subst hu'; rfl) | (rcases hu' with rfl | rfl <;> rfl) | (rcases hu' with rfl | rfl | rfl <;> rfl))) (by unfold maxLen; omega) (by omega) (by simp; omega) ?_)
  intro v5 w5 hown5 hgrow5 _
  have hb5 : Below B w w5 := (hb4.alloc (by omega) _).grown hgrow5 (by simp; omega) (fun k hk => (hown4.lt k hk).1)
  have hs5 := hb5.size
  go_wp2_with (at_builtin; refine wpList_append_own _ rfl _ _ 98 rfl B 5 i0 (.int .u8 0) 1 1 Tryz.underlying98 hi hz0 hz1 hz2 rfl (by decide) _ _ _ rfl (hown5.alloc _) ⟨w5.heap.size, 0, none⟩ 2 2 [Value.int .u8 48, Value.int .u8 ((K : Int) + 48)] rfl rfl (by intro j u' hj; match j, hj with | 0, hj => simp at hj; subst hj; simp [Addr.add] | 1, hj => simp at hj; subst hj; simp [Addr.add]) (by intro u' hu'; simp at hu'; (first | (subst hu'; rfl) | (rcases hu' with rfl | rfl <;> rfl) | (rcases hu' with rfl | rfl | rfl <;> rfl))) (by unfold maxLen; omega) (by omega) (by simp; omega) ?_)
  intro v6 w6 hown6 hgrow6 _
  have hb6 : Below B w w6 := (hb5.alloc (by omega) _).grown hgrow6 (by simp; omega) (fun k hk => (hown5.lt k hk).1)
  have hs6 := hb6.size
  go_wp2_with fail
  go_ret
  refine ⟨v6, 0 + 1 + 1 + (r.length + 1) + 1 + 1 + 2, rfl, ?_, hb6⟩
  have he : Lib.byteCells (eText (c :: d :: r) (dp - 1)) = _ := e_pos1 hE hK
  rw [he]
  simpa [Lib.byteCells, pointed] using hown6
theorem fmtE_mp2 (B blk : Nat) (c : UInt8) (dp : Int) (K : Nat) (hE : dp - 1 = (K : Int)) (hK0 : 10 ≤ K) (hK : K < 100) (sv : Value) (w : World) (hB : B ≤ w.heap.size) (hown : w.ownsRow B 5 1 sv 0 [])
    (hc : w.cell? ⟨blk, 0, none⟩ = some (.int .u8 (c.toNat : Int))) (d : UInt8) (r : List UInt8) (hr : r.length ≤ 25) (hkind : ∃ arr fz, w.heap[blk]? = some (.cells arr 259 fz)) (hcs : ∀ j (hj : j < (d :: r).length), w.cell? ⟨blk, 1 + j, none⟩ = some (.int .u8 ((d :: r)[j].toNat : Int))) :
    Calls Tryz.prog 221 #[sv, .bool false, .slice (some ⟨blk, 0, none⟩) 32 32, .int .i64 dp, .int .i64 ((r.length : Int) + 2), .int .i64 ((r.length : Int) + 1), .int .u8 101, .bool true] w fun e w' =>
      ∃ v' n, e = .returned v' ∧ w'.ownsRow B 5 1 v' n (Lib.byteCells (eText (c :: d :: r) (dp - 1))) ∧ Below B w w' := by
  obtain ⟨i0, hi, hz0, hz1, hz2⟩ := info_parts info5
  have Hc := Lib.hid hcs
  have Hkind := Lib.hid hkind
  clear hcs hkind
  have hmin : min ((r.length : Int) + 2) ((r.length : Int) + 1 + 1) = (r.length : Int) + 2 := by omega
  have hto : ((r.length : Int) + 2).toNat = r.length + 2 := by omega
  go_enter Tryz.func221, Tryz.ntmps221
  go_wp2_with (at_builtin; refine wpList_append_own _ rfl _ _ 98 rfl B 5 i0 (.int .u8 0) 1 1 Tryz.underlying98 hi hz0 hz1 hz2 rfl (by decide) _ _ _ rfl (hown.alloc _) ⟨w.heap.size, 0, none⟩ 1 1 [Value.int .u8 (c.toNat : Int)] rfl rfl (by intro j u' hj; match j, hj with | 0, hj => simp at hj; subst hj; simp [Addr.add]) (by intro u' hu'; simp at hu'; (first | (subst hu'; rfl) | (rcases hu' with rfl | rfl <;> rfl) | (rcases hu' with rfl | rfl | rfl <;> rfl))) (by unfold maxLen; omega) (by omega) (by simp; omega) ?_)
  intro v1 w1 hown1 hgrow1 _
  have hb1 : Below B w w1 := ((Below.refl B w).alloc (by omega) _).grown hgrow1 (by simp; omega) (fun k hk => (hown.lt k hk).1)
  have hk1 : Lib.OthersKept 5 none w w1 := ((Lib.OthersKept.refl 5 none w).alloc _).grown hgrow1 (Lib.ownsRow_kind (hown.alloc _))
  have hs1 := hb1.size
  go_wp2_with (at_builtin; refine wpList_append_own _ rfl _ _ 98 rfl B 5 i0 (.int .u8 0) 1 1 Tryz.underlying98 hi hz0 hz1 hz2 rfl (by decide) _ _ _ rfl (hown1.alloc _) ⟨w1.heap.size, 0, none⟩ 1 1 [Value.int .u8 46] rfl rfl (by intro j u' hj; match j, hj with | 0, hj => simp at hj; subst hj; simp [Addr.add]) (by intro u' hu'; simp at hu'; (first | (subst hu'; rfl) | (rcases hu' with rfl | rfl <;> rfl) | (rcases hu' with rfl | rfl | rfl <;> rfl))) (by unfold maxLen; omega) (by omega) (by simp; omega) ?_)
  intro v2 w2 hown2 hgrow2 _
  have hb2 : Below B w w2 := (hb1.alloc (by omega) _).grown hgrow2 (by simp; omega) (fun k hk => (hown1.lt k hk).1)
  have hk2 : Lib.OthersKept 5 none w w2 := (hk1.alloc _).grown hgrow2 (Lib.ownsRow_kind (hown1.alloc _))
  have hs2 := hb2.size
  go_wp2_with (at_builtin; refine wpList_append_own _ rfl _ _ 98 rfl B 5 i0 (.int .u8 0) 1 1 Tryz.underlying98 hi hz0 hz1 hz2 rfl (by decide) _ _ _ rfl hown2 ⟨blk, 1, none⟩ (r.length + 1) 31 (Lib.byteCells (d :: r)) rfl (by rw [Lib.byteCells_length]; simp) (cellsB Hc.out hk2 Hkind.out) cells_one' (by unfold maxLen; omega) (by omega) (by omega) ?_)
  intro v3 w3 hown3 hgrow3 _
  have hb3 : Below B w w3 := hb2.grown hgrow3 (by omega) (fun k hk => (hown2.lt k hk).1)
  have hs3 := hb3.size
  go_wp2_with fail
  refine wp_loop_rounds 1 ?_
  rw [rounds_succ]
  go_wp2_with (at_builtin; refine wpList_append_own _ rfl _ _ 98 rfl B 5 i0 (.int .u8 0) 1 1 Tryz.underlying98 hi hz0 hz1 hz2 rfl (by decide) _ _ _ rfl (hown3.alloc _) ⟨w3.heap.size, 0, none⟩ 1 1 [Value.int .u8 101] rfl rfl (by intro j u' hj; match j, hj with | 0, hj => simp at hj; subst hj; simp [Addr.add]) (by intro u' hu'; simp at hu'; (first | (subst hu'; rfl) | (rcases hu' with rfl | rfl <;> rfl) | (rcases hu' with rfl | rfl | rfl <;> rfl))) (by unfold maxLen; omega) (by omega) (by simp; omega) ?_)
  intro v4 w4 hown4 hgrow4 _
  have hb4 : Below B w w4 := (hb3.alloc (by omega) _).grown hgrow4 (by simp; omega) (fun k hk => (hown3.lt k hk).1)
  have hs4 := hb4.size
  go_wp2_with (at_builtin; refine wpList_append_own _ rfl _ _ 98 rfl B 5 i0 (.int .u8 0) 1 1 Tryz.underlying98 hi hz0 hz1 hz2 rfl (by decide) _ _ _ rfl (hown4.alloc _) ⟨w4.heap.size, 0, none⟩ 1 1 [Value.int .u8 43] rfl rfl (by intro j u' hj; match j, hj with | 0, hj => simp at hj; subst hj; simp [Addr.add]) (by intro u' hu'; simp at hu'; (first | (subst hu'; rfl) | (rcases hu' with rfl | rfl <;> rfl) | (rcases hu' with rfl | rfl | rfl <;> rfl))) (by unfold maxLen; omega) (by omega) (by simp; omega) ?_)
  intro v5 w5 hown5 hgrow5 _
  have hb5 : Below B w w5 := (hb4.alloc (by omega) _).grown hgrow5 (by simp; omega) (fun k hk => (hown4.lt k hk).1)
  have hs5 := hb5.size
  go_wp2_with (at_builtin; refine wpList_append_own _ rfl _ _ 98 rfl B 5 i0 (.int .u8 0) 1 1 Tryz.underlying98 hi hz0 hz1 hz2 rfl (by decide) _ _ _ rfl (hown5.alloc _) ⟨w5.heap.size, 0, none⟩ 2 2 [Value.int .u8 ((K : Int) / 10 + 48), Value.int .u8 ((K : Int) % 10 + 48)] rfl rfl (by intro j u' hj; match j, hj with | 0, hj => simp at hj; subst hj; simp [Addr.add] | 1, hj => simp at hj; subst hj; simp [Addr.add]) (by intro u' hu'; simp at hu'; (first | (subst hu'; rfl) | (rcases hu' with rfl | rfl <;> rfl) | (rcases hu' with rfl | rfl | rfl <;> rfl))) (by unfold maxLen; omega) (by omega) (by simp; omega) ?_)
  intro v6 w6 hown6 hgrow6 _
  have hb6 : Below B w w6 := (hb5.alloc (by omega) _).grown hgrow6 (by simp; omega) (fun k hk => (hown5.lt k hk).1)
  have hs6 := hb6.size
  go_wp2_with fail
  go_ret
  refine ⟨v6, 0 + 1 + 1 + (r.length + 1) + 1 + 1 + 2, rfl, ?_, hb6⟩
  have he : Lib.byteCells (eText (c :: d :: r) (dp - 1)) = _ := e_pos2 hE hK0 hK
  rw [he]
  simpa [Lib.byteCells, pointed] using hown6
theorem fmtE_mp3 (B blk : Nat) (c : UInt8) (dp : Int) (K : Nat) (hE : dp - 1 = (K : Int)) (hK0 : 100 ≤ K) (hK : K < 1000) (sv : Value) (w : World) (hB : B ≤ w.heap.size) (hown : w.ownsRow B 5 1 sv 0 [])
    (hc : w.cell? ⟨blk, 0, none⟩ = some (.int .u8 (c.toNat : Int))) (d : UInt8) (r : List UInt8) (hr : r.length ≤ 25) (hkind : ∃ arr fz, w.heap[blk]? = some (.cells arr 259 fz)) (hcs : ∀ j (hj : j < (d :: r).length), w.cell? ⟨blk, 1 + j, none⟩ = some (.int .u8 ((d :: r)[j].toNat : Int))) :
    Calls Tryz.prog 221 #[sv, .bool false, .slice (some ⟨blk, 0, none⟩) 32 32, .int .i64 dp, .int .i64 ((r.length : Int) + 2), .int .i64 ((r.length : Int) + 1), .int .u8 101, .bool true] w fun e w' =>
      ∃ v' n, e = .returned v' ∧ w'.ownsRow B 5 1 v' n (Lib.byteCells (eText (c :: d :: r) (dp - 1))) ∧ Below B w w' := by
  obtain ⟨i0, hi, hz0, hz1, hz2⟩ := info_parts info5
  have Hc := Lib.hid hcs
  have Hkind := Lib.hid hkind
  clear hcs hkind
  have hmin : min ((r.length : Int) + 2) ((r.length : Int) + 1 + 1) = (r.length : Int) + 2 := by omega
  have hto : ((r.length : Int) + 2).toNat = r.length + 2 := by omega
  go_enter Tryz.func221, Tryz.ntmps221
  go_wp2_with (at_builtin; refine wpList_append_own _ rfl _ _ 98 rfl B 5 i0 (.int .u8 0) 1 1 Tryz.underlying98 hi hz0 hz1 hz2 rfl (by decide) _ _ _ rfl (hown.alloc _) ⟨w.heap.size, 0, none⟩ 1 1 [Value.int .u8 (c.toNat : Int)] rfl rfl (by intro j u' hj; match j, hj with | 0, hj => simp at hj; subst hj; simp [Addr.add]) (by intro u' hu'; simp at hu'; (first | (subst hu'; rfl) | (rcases hu' with rfl | rfl <;> rfl) | (rcases hu' with rfl | rfl | rfl <;> rfl))) (by unfold maxLen; omega) (by omega) (by simp; omega) ?_)
  intro v1 w1 hown1 hgrow1 _
  have hb1 : Below B w w1 := ((Below.refl B w).alloc (by omega) _).grown hgrow1 (by simp; omega) (fun k hk => (hown.lt k hk).1)
  have hk1 : Lib.OthersKept 5 none w w1 := ((Lib.OthersKept.refl 5 none w).alloc _).grown hgrow1 (Lib.ownsRow_kind (hown.alloc _))
  have hs1 := hb1.size
  go_wp2_with (at_builtin; refine wpList_append_own _ rfl _ _ 98 rfl B 5 i0 (.int .u8 0) 1 1 Tryz.underlying98 hi hz0 hz1 hz2 rfl (by decide) _ _ _ rfl (hown1.alloc _) ⟨w1.heap.size, 0, none⟩ 1 1 [Value.int .u8 46] rfl rfl (by intro j u' hj; match j, hj with | 0, hj => simp at hj; subst hj; simp [Addr.add]) (by intro u' hu'; simp at hu'; (first | (subst hu'; rfl) | (rcases hu' with rfl | rfl <;> rfl) | (rcases hu' with rfl | rfl | rfl <;> rfl))) (by unfold maxLen; omega) (by omega) (by simp; omega) ?_)
  intro v2 w2 hown2 hgrow2 _
  have hb2 : Below B w w2 := (hb1.alloc (by omega) _).grown hgrow2 (by simp; omega) (fun k hk => (hown1.lt k hk).1)
  have hk2 : Lib.OthersKept 5 none w w2 := (hk1.alloc _).grown hgrow2 (Lib.ownsRow_kind (hown1.alloc _))
  have hs2 := hb2.size
  go_wp2_with (at_builtin; refine wpList_append_own _ rfl _ _ 98 rfl B 5 i0 (.int .u8 0) 1 1 Tryz.underlying98 hi hz0 hz1 hz2 rfl (by decide) _ _ _ rfl hown2 ⟨blk, 1, none⟩ (r.length + 1) 31 (Lib.byteCells (d :: r)) rfl (by rw [Lib.byteCells_length]; simp) (cellsB Hc.out hk2 Hkind.out) cells_one' (by unfold maxLen; omega) (by omega) (by omega) ?_)
  intro v3 w3 hown3 hgrow3 _
  have hb3 : Below B w w3 := hb2.grown hgrow3 (by omega) (fun k hk => (hown2.lt k hk).1)
  have hs3 := hb3.size
  go_wp2_with fail
  refine wp_loop_rounds 1 ?_
  rw [rounds_succ]
  go_wp2_with (at_builtin; refine wpList_append_own _ rfl _ _ 98 rfl B 5 i0 (.int .u8 0) 1 1 Tryz.underlying98 hi hz0 hz1 hz2 rfl (by decide) _ _ _ rfl (hown3.alloc _) ⟨w3.heap.size, 0, none⟩ 1 1 [Value.int .u8 101] rfl rfl (by intro j u' hj; match j, hj with | 0, hj => simp at hj; subst hj; simp [Addr.add]) (by intro u' hu'; simp at hu'; (first | (subst hu'; rfl) | (rcases hu' with rfl | rfl <;> rfl) | (rcases hu' with rfl | rfl | rfl <;> rfl))) (by unfold maxLen; omega) (by omega) (by simp; omega) ?_)
  intro v4 w4 hown4 hgrow4 _
  have hb4 : Below B w w4 := (hb3.alloc (by omega) _).grown hgrow4 (by simp; omega) (fun k hk => (hown3.lt k hk).1)
  have hs4 := hb4.size
  go_wp2_with (at_builtin; refine wpList_append_own _ rfl _ _ 98 rfl B 5 i0 (.int .u8 0) 1 1 Tryz.underlying98 hi hz0 hz1 hz2 rfl (by decide) _ _ _ rfl (hown4.alloc _) ⟨w4.heap.size, 0, none⟩ 1 1 [Value.int .u8 43] rfl rfl (by intro j u' hj; match j, hj with | 0, hj => simp at hj; subst hj; simp [Addr.add]) (by intro u' hu'; simp at hu'; (first | (subst hu'; rfl) | (rcases hu' with rfl | rfl <;> rfl) | (rcases hu' with rfl | rfl | rfl <;> rfl))) (by unfold maxLen; omega) (by omega) (by simp; omega) ?_)
  intro v5 w5 hown5 hgrow5 _
  have hb5 : Below B w w5 := (hb4.alloc (by omega) _).grown hgrow5 (by simp; omega) (fun k hk => (hown4.lt k hk).1)
  have hs5 := hb5.size
  go_wp2_with (at_builtin; refine wpList_append_own _ rfl _ _ 98 rfl B 5 i0 (.int .u8 0) 1 1 Tryz.underlying98 hi hz0 hz1 hz2 rfl (by decide) _ _ _ rfl (hown5.alloc _) ⟨w5.heap.size, 0, none⟩ 3 3 [Value.int .u8 ((K : Int) / 100 + 48), Value.int .u8 ((K : Int) / 10 % 10 + 48), Value.int .u8 ((K : Int) % 10 + 48)] rfl rfl (by intro j u' hj; match j, hj with | 0, hj => simp at hj; subst hj; simp [Addr.add] | 1, hj => simp at hj; subst hj; simp [Addr.add] | 2, hj => simp at hj; subst hj; simp [Addr.add]) (by intro u' hu'; simp at hu'; (first | (subst hu'; rfl) | (rcases hu' with rfl | rfl <;> rfl) | (rcases hu' with rfl | rfl | rfl <;> rfl))) (by unfold maxLen; omega) (by omega) (by simp; omega) ?_)
  intro v6 w6 hown6 hgrow6 _
  have hb6 : Below B w w6 := (hb5.alloc (by omega) _).grown hgrow6 (by simp; omega) (fun k hk => (hown5.lt k hk).1)
  have hs6 := hb6.size
  go_wp2_with fail
  go_ret
  refine ⟨v6, 0 + 1 + 1 + (r.length + 1) + 1 + 1 + 3, rfl, ?_, hb6⟩
  have he : Lib.byteCells (eText (c :: d :: r) (dp - 1)) = _ := e_pos3 hE hK0 hK
  rw [he]
  simpa [Lib.byteCells, pointed] using hown6
theorem fmtE_mn1 (B blk : Nat) (c : UInt8) (dp : Int) (K : Nat) (hE : dp - 1 = -(K : Int)) (hK1 : 1 ≤ K) (hK : K < 10) (sv : Value) (w : World) (hB : B ≤ w.heap.size) (hown : w.ownsRow B 5 1 sv 0 [])
    (hc : w.cell? ⟨blk, 0, none⟩ = some (.int .u8 (c.toNat : Int))) (d : UInt8) (r : List UInt8) (hr : r.length ≤ 25) (hkind : ∃ arr fz, w.heap[blk]? = some (.cells arr 259 fz)) (hcs : ∀ j (hj : j < (d :: r).length), w.cell? ⟨blk, 1 + j, none⟩ = some (.int .u8 ((d :: r)[j].toNat : Int))) :
    Calls Tryz.prog 221 #[sv, .bool false, .slice (some ⟨blk, 0, none⟩) 32 32, .int .i64 dp, .int .i64 ((r.length : Int) + 2), .int .i64 ((r.length : Int) + 1), .int .u8 101, .bool true] w fun e w' =>
      ∃ v' n, e = .returned v' ∧ w'.ownsRow B 5 1 v' n (Lib.byteCells (eText (c :: d :: r) (dp - 1))) ∧ Below B w w' := by
  obtain ⟨i0, hi, hz0, hz1, hz2⟩ := info_parts info5
  have Hc := Lib.hid hcs
  have Hkind := Lib.hid hkind
  clear hcs hkind
  have hmin : min ((r.length : Int) + 2) ((r.length : Int) + 1 + 1) = (r.length : Int) + 2 := by omega
  have hto : ((r.length : Int) + 2).toNat = r.length + 2 := by omega
  go_enter Tryz.func221, Tryz.ntmps221
  go_wp2_with (at_builtin; refine wpList_append_own _ rfl _ _ 98 rfl B 5 i0 (.int .u8 0) 1 1 Tryz.underlying98 hi hz0 hz1 hz2 rfl (by decide) _ _ _ rfl (hown.alloc _) ⟨w.heap.size, 0, none⟩ 1 1 [Value.int .u8 (c.toNat : Int)] rfl rfl (by intro j u' hj; match j, hj with | 0, hj => simp at hj; subst hj; simp [Addr.add]) (by intro u' hu'; simp at hu'; (first | (subst hu'; rfl) | (rcases hu' with rfl | rfl <;> rfl) | (rcases hu' with rfl | rfl | rfl <;> rfl))) (by unfold maxLen; omega) (by omega) (by simp; omega) ?_)
  intro v1 w1 hown1 hgrow1 _
  have hb1 : Below B w w1 := ((Below.refl B w).alloc (by omega) _).grown hgrow1 (by simp; omega) (fun k hk => (hown.lt k hk).1)
  have hk1 : Lib.OthersKept 5 none w w1 := ((Lib.OthersKept.refl 5 none w).alloc _).grown hgrow1 (Lib.ownsRow_kind (hown.alloc _))
  have hs1 := hb1.size
  go_wp2_with (at_builtin; refine wpList_append_own _ rfl _ _ 98 rfl B 5 i0 (.int .u8 0) 1 1 Tryz.underlying98 hi hz0 hz1 hz2 rfl (by decide) _ _ _ rfl (hown1.alloc _) ⟨w1.heap.size, 0, none⟩ 1 1 [Value.int .u8 46] rfl rfl (by intro j u' hj; match j, hj with | 0, hj => simp at hj; subst hj; simp [Addr.add]) (by intro u' hu'; simp at hu'; (first | (subst hu'; rfl) | (rcases hu' with rfl | rfl <;> rfl) | (rcases hu' with rfl | rfl | rfl <;> rfl))) (by unfold maxLen; omega) (by omega) (by simp; omega) ?_)
  intro v2 w2 hown2 hgrow2 _
  have hb2 : Below B w w2 := (hb1.alloc (by omega) _).grown hgrow2 (by simp; omega) (fun k hk => (hown1.lt k hk).1)
  have hk2 : Lib.OthersKept 5 none w w2 := (hk1.alloc _).grown hgrow2 (Lib.ownsRow_kind (hown1.alloc _))
  have hs2 := hb2.size
  go_wp2_with (at_builtin; refine wpList_append_own _ rfl _ _ 98 rfl B 5 i0 (.int .u8 0) 1 1 Tryz.underlying98 hi hz0 hz1 hz2 rfl (by decide) _ _ _ rfl hown2 ⟨blk, 1, none⟩ (r.length + 1) 31 (Lib.byteCells (d :: r)) rfl (by rw [Lib.byteCells_length]; simp) (cellsB Hc.out hk2 Hkind.out) cells_one' (by unfold maxLen; omega) (by omega) (by omega) ?_)
  intro v3 w3 hown3 hgrow3 _
  have hb3 : Below B w w3 := hb2.grown hgrow3 (by omega) (fun k hk => (hown2.lt k hk).1)
  have hs3 := hb3.size
  go_wp2_with fail
  refine wp_loop_rounds 1 ?_
  rw [rounds_succ]
  go_wp2_with (at_builtin; refine wpList_append_own _ rfl _ _ 98 rfl B 5 i0 (.int .u8 0) 1 1 Tryz.underlying98 hi hz0 hz1 hz2 rfl (by decide) _ _ _ rfl (hown3.alloc _) ⟨w3.heap.size, 0, none⟩ 1 1 [Value.int .u8 101] rfl rfl (by intro j u' hj; match j, hj with | 0, hj => simp at hj; subst hj; simp [Addr.add]) (by intro u' hu'; simp at hu'; (first | (subst hu'; rfl) | (rcases hu' with rfl | rfl <;> rfl) | (rcases hu' with rfl | rfl | rfl <;> rfl))) (by unfold maxLen; omega) (by omega) (by simp; omega) ?_)
  intro v4 w4 hown4 hgrow4 _
  have hb4 : Below B w w4 := (hb3.alloc (by omega) _).grown hgrow4 (by simp; omega) (fun k hk => (hown3.lt k hk).1)
  have hs4 := hb4.size
  go_wp2_with (at_builtin; refine wpList_append_own _ rfl _ _ 98 rfl B 5 i0 (.int .u8 0) 1 1 Tryz.underlying98 hi hz0 hz1 hz2 rfl (by decide) _ _ _ rfl (hown4.alloc _) ⟨w4.heap.size, 0, none⟩ 1 1 [Value.int .u8 45] rfl rfl (by intro j u' hj; match j, hj with | 0, hj => simp at hj; subst hj; simp [Addr.add]) (by intro u' hu'; simp at hu'; (first | (subst hu'; rfl) | (rcases hu' with rfl | rfl <;> rfl) | (rcases hu' with rfl | rfl | rfl <;> rfl))) (by unfold maxLen; omega) (by omega) (by simp; omega) ?_)
  intro v5 w5 hown5 hgrow5 _
  have hb5 : Below B w w5 := (hb4.alloc (by omega) _).grown hgrow5 (by simp; omega) (fun k hk => (hown4.lt k hk).1)
  have hs5 := hb5.size
  go_wp2_with (at_builtin; refine wpList_append_own _ rfl _ _ 98 rfl B 5 i0 (.int .u8 0) 1 1 Tryz.underlying98 hi hz0 hz1 hz2 rfl (by decide) _ _ _ rfl (hown5.alloc _) ⟨w5.heap.size, 0, none⟩ 2 2 [Value.int .u8 48, Value.int .u8 ((K : Int) + 48)] rfl rfl (by intro j u' hj; match j, hj with | 0, hj => simp at hj; subst hj; simp [Addr.add] | 1, hj => simp at hj; subst hj; simp [Addr.add]) (by intro u' hu'; simp at hu'; (first | (subst hu'; rfl) | (rcases hu' with rfl | rfl <;> rfl) | (rcases hu' with rfl | rfl | rfl <;> rfl))) (by unfold maxLen; omega) (by omega) (by simp; omega) ?_)
  intro v6 w6 hown6 hgrow6 _
  have hb6 : Below B w w6 := (hb5.alloc (by omega) _).grown hgrow6 (by simp; omega) (fun k hk => (hown5.lt k hk).1)
  have hs6 := hb6.size
  go_wp2_with fail
  go_ret
  refine ⟨v6, 0 + 1 + 1 + (r.length + 1) + 1 + 1 + 2, rfl, ?_, hb6⟩
  have he : Lib.byteCells (eText (c :: d :: r) (dp - 1)) = _ := e_neg1 hE hK1 hK
  rw [he]
  simpa [Lib.byteCells, pointed] using hown6
theorem fmtE_mn2 (B blk : Nat) (c : UInt8) (dp : Int) (K : Nat) (hE : dp - 1 = -(K : Int)) (hK1 : 1 ≤ K) (hK0 : 10 ≤ K) (hK : K < 100) (sv : Value) (w : World) (hB : B ≤ w.heap.size) (hown : w.ownsRow B 5 1 sv 0 [])
    (hc : w.cell? ⟨blk, 0, none⟩ = some (.int .u8 (c.toNat : Int))) (d : UInt8) (r : List UInt8) (hr : r.length ≤ 25) (hkind : ∃ arr fz, w.heap[blk]? = some (.cells arr 259 fz)) (hcs : ∀ j (hj : j < (d :: r).length), w.cell? ⟨blk, 1 + j, none⟩ = some (.int .u8 ((d :: r)[j].toNat : Int))) :
    Calls Tryz.prog 221 #[sv, .bool false, .slice (some ⟨blk, 0, none⟩) 32 32, .int .i64 dp, .int .i64 ((r.length : Int) + 2), .int .i64 ((r.length : Int) + 1), .int .u8 101, .bool true] w fun e w' =>
      ∃ v' n, e = .returned v' ∧ w'.ownsRow B 5 1 v' n (Lib.byteCells (eText (c :: d :: r) (dp - 1))) ∧ Below B w w' := by
  obtain ⟨i0, hi, hz0, hz1, hz2⟩ := info_parts info5
  have Hc := Lib.hid hcs
  have Hkind := Lib.hid hkind
  clear hcs hkind
  have hmin : min ((r.length : Int) + 2) ((r.length : Int) + 1 + 1) = (r.length : Int) + 2 := by omega
  have hto : ((r.length : Int) + 2).toNat = r.length + 2 := by omega
  go_enter Tryz.func221, Tryz.ntmps221
  go_wp2_with (at_builtin; refine wpList_append_own _ rfl _ _ 98 rfl B 5 i0 (.int .u8 0) 1 1 Tryz.underlying98 hi hz0 hz1 hz2 rfl (by decide) _ _ _ rfl (hown.alloc _) ⟨w.heap.size, 0, none⟩ 1 1 [Value.int .u8 (c.toNat : Int)] rfl rfl (by intro j u' hj; match j, hj with | 0, hj => simp at hj; subst hj; simp [Addr.add]) (by intro u' hu'; simp at hu'; (first | (subst hu'; rfl) | (rcases hu' with rfl | rfl <;> rfl) | (rcases hu' with rfl | rfl | rfl <;> rfl))) (by unfold maxLen; omega) (by omega) (by simp; omega) ?_)
  intro v1 w1 hown1 hgrow1 _
  have hb1 : Below B w w1 := ((Below.refl B w).alloc (by omega) _).grown hgrow1 (by simp; omega) (fun k hk => (hown.lt k hk).1)
  have hk1 : Lib.OthersKept 5 none w w1 := ((Lib.OthersKept.refl 5 none w).alloc _).grown hgrow1 (Lib.ownsRow_kind (hown.alloc _))
  have hs1 := hb1.size
  go_wp2_with (at_builtin; refine wpList_append_own _ rfl _ _ 98 rfl B 5 i0 (.int .u8 0) 1 1 Tryz.underlying98 hi hz0 hz1 hz2 rfl (by decide) _ _ _ rfl (hown1.alloc _) ⟨w1.heap.size, 0, none⟩ 1 1 [Value.int .u8 46] rfl rfl (by intro j u' hj; match j, hj with | 0, hj => simp at hj; subst hj; simp [Addr.add]) (by intro u' hu'; simp at hu'; (first | (subst hu'; rfl) | (rcases hu' with rfl | rfl <;> rfl) | (rcases hu' with rfl | rfl | rfl <;> rfl))) (by unfold maxLen; omega) (by omega) (by simp; omega) ?_)
  intro v2 w2 hown2 hgrow2 _
  have hb2 : Below B w w2 := (hb1.alloc (by omega) _).grown hgrow2 (by simp; omega) (fun k hk => (hown1.lt k hk).1)
  have hk2 : Lib.OthersKept 5 none w w2 := (hk1.alloc _).grown hgrow2 (Lib.ownsRow_kind (hown1.alloc _))
  have hs2 := hb2.size
  go_wp2_with (at_builtin; refine wpList_append_own _ rfl _ _ 98 rfl B 5 i0 (.int .u8 0) 1 1 Tryz.underlying98 hi hz0 hz1 hz2 rfl (by decide) _ _ _ rfl hown2 ⟨blk, 1, none⟩ (r.length + 1) 31 (Lib.byteCells (d :: r)) rfl (by rw [Lib.byteCells_length]; simp) (cellsB Hc.out hk2 Hkind.out) cells_one' (by unfold maxLen; omega) (by omega) (by omega) ?_)
  intro v3 w3 hown3 hgrow3 _
  have hb3 : Below B w w3 := hb2.grown hgrow3 (by omega) (fun k hk => (hown2.lt k hk).1)
  have hs3 := hb3.size
  go_wp2_with fail
  refine wp_loop_rounds 1 ?_
  rw [rounds_succ]
  go_wp2_with (at_builtin; refine wpList_append_own _ rfl _ _ 98 rfl B 5 i0 (.int .u8 0) 1 1 Tryz.underlying98 hi hz0 hz1 hz2 rfl (by decide) _ _ _ rfl (hown3.alloc _) ⟨w3.heap.size, 0, none⟩ 1 1 [Value.int .u8 101] rfl rfl (by intro j u' hj; match j, hj with | 0, hj => simp at hj; subst hj; simp [Addr.add]) (by intro u' hu'; simp at hu'; (first | (subst hu'; rfl) | (rcases hu' with rfl | rfl <;> rfl) | (rcases hu' with rfl | rfl | rfl <;> rfl))) (by unfold maxLen; omega) (by omega) (by simp; omega) ?_)
  intro v4 w4 hown4 hgrow4 _
  have hb4 : Below B w w4 := (hb3.alloc (by omega) _).grown hgrow4 (by simp; omega) (fun k hk => (hown3.lt k hk).1)
  have hs4 := hb4.size
  go_wp2_with (at_builtin; refine wpList_append_own _ rfl _ _ 98 rfl B 5 i0 (.int .u8 0) 1 1 Tryz.underlying98 hi hz0 hz1 hz2 rfl (by decide) _ _ _ rfl (hown4.alloc _) ⟨w4.heap.size, 0, none⟩ 1 1 [Value.int .u8 45] rfl rfl (by intro j u' hj; match j, hj with | 0, hj => simp at hj; subst hj; simp [Addr.add]) (by intro u' hu'; simp at hu'; (first | (subst hu'; rfl) | (rcases hu' with rfl | rfl <;> rfl) | (rcases hu' with rfl | rfl | rfl <;> rfl))) (by unfold maxLen; omega) (by omega) (by simp; omega) ?_)
  intro v5 w5 hown5 hgrow5 _
  have hb5 : Below B w w5 := (hb4.alloc (by omega) _).grown hgrow5 (by simp; omega) (fun k hk => (hown4.lt k hk).1)
  have hs5 := hb5.size
  go_wp2_with (at_builtin; refine wpList_append_own _ rfl _ _ 98 rfl B 5 i0 (.int .u8 0) 1 1 Tryz.underlying98 hi hz0 hz1 hz2 rfl (by decide) _ _ _ rfl (hown5.alloc _) ⟨w5.heap.size, 0, none⟩ 2 2 [Value.int .u8 ((K : Int) / 10 + 48), Value.int .u8 ((K : Int) % 10 + 48)] rfl rfl (by intro j u' hj; match j, hj with | 0, hj => simp at hj; subst hj; simp [Addr.add] | 1, hj => simp at hj; subst hj; simp [Addr.add]) (by intro u' hu'; simp at hu'; (first | (subst hu'; rfl) | (rcases hu' with rfl | rfl <;> rfl) | (rcases hu' with rfl | rfl | rfl <;> rfl))) (by unfold maxLen; omega) (by omega) (by simp; omega) ?_)
  intro v6 w6 hown6 hgrow6 _
  have hb6 : Below B w w6 := (hb5.alloc (by omega) _).grown hgrow6 (by simp; omega) (fun k hk => (hown5.lt k hk).1)
  have hs6 := hb6.size
  go_wp2_with fail
  go_ret
  refine ⟨v6, 0 + 1 + 1 + (r.length + 1) + 1 + 1 + 2, rfl, ?_, hb6⟩
  have he : Lib.byteCells (eText (c :: d :: r) (dp - 1)) = _ := e_neg2 hE hK0 hK
  rw [he]
  simpa [Lib.byteCells, pointed] using hown6
theorem fmtE_mn3 (B blk : Nat) (c : UInt8) (dp : Int) (K : Nat) (hE : dp - 1 = -(K : Int)) (hK1 : 1 ≤ K) (hK0 : 100 ≤ K) (hK : K < 1000) (sv : Value) (w : World) (hB : B ≤ w.heap.size) (hown : w.ownsRow B 5 1 sv 0 [])
    (hc : w.cell? ⟨blk, 0, none⟩ = some (.int .u8 (c.toNat : Int))) (d : UInt8) (r : List UInt8) (hr : r.length ≤ 25) (hkind : ∃ arr fz, w.heap[blk]? = some (.cells arr 259 fz)) (hcs : ∀ j (hj : j < (d :: r).length), w.cell? ⟨blk, 1 + j, none⟩ = some (.int .u8 ((d :: r)[j].toNat : Int))) :
    Calls Tryz.prog 221 #[sv, .bool false, .slice (some ⟨blk, 0, none⟩) 32 32, .int .i64 dp, .int .i64 ((r.length : Int) + 2), .int .i64 ((r.length : Int) + 1), .int .u8 101, .bool true] w fun e w' =>
      ∃ v' n, e = .returned v' ∧ w'.ownsRow B 5 1 v' n (Lib.byteCells (eText (c :: d :: r) (dp - 1))) ∧ Below B w w' := by
  obtain ⟨i0, hi, hz0, hz1, hz2⟩ := info_parts info5
  have Hc := Lib.hid hcs
  have Hkind := Lib.hid hkind
  clear hcs hkind
  have hmin : min ((r.length : Int) + 2) ((r.length : Int) + 1 + 1) = (r.length : Int) + 2 := by omega
  have hto : ((r.length : Int) + 2).toNat = r.length + 2 := by omega
  go_enter Tryz.func221, Tryz.ntmps221
  go_wp2_with (at_builtin; refine wpList_append_own _ rfl _ _ 98 rfl B 5 i0 (.int .u8 0) 1 1 Tryz.underlying98 hi hz0 hz1 hz2 rfl (by decide) _ _ _ rfl (hown.alloc _) ⟨w.heap.size, 0, none⟩ 1 1 [Value.int .u8 (c.toNat : Int)] rfl rfl (by intro j u' hj; match j, hj with | 0, hj => simp at hj; subst hj; simp [Addr.add]) (by intro u' hu'; simp at hu'; (first | (subst hu'; rfl) | (rcases hu' with rfl | rfl <;> rfl) | (rcases hu' with rfl | rfl | rfl <;> rfl))) (by unfold maxLen; omega) (by omega) (by simp; omega) ?_)
  intro v1 w1 hown1 hgrow1 _
  have hb1 : Below B w w1 := ((Below.refl B w).alloc (by omega) _).grown hgrow1 (by simp; omega) (fun k hk => (hown.lt k hk).1)
  have hk1 : Lib.OthersKept 5 none w w1 := ((Lib.OthersKept.refl 5 none w).alloc _).grown hgrow1 (Lib.ownsRow_kind (hown.alloc _))
  have hs1 := hb1.size
  go_wp2_with (at_builtin; refine wpList_append_own _ rfl _ _ 98 rfl B 5 i0 (.int .u8 0) 1 1 Tryz.underlying98 hi hz0 hz1 hz2 rfl (by decide) _ _ _ rfl (hown1.alloc _) ⟨w1.heap.size, 0, none⟩ 1 1 [Value.int .u8 46] rfl rfl (by intro j u' hj; match j, hj with | 0, hj => simp at hj; subst hj; simp [Addr.add]) (by intro u' hu'; simp at hu'; (first | (subst hu'; rfl) | (rcases hu' with rfl | rfl <;> rfl) | (rcases hu' with rfl | rfl | rfl <;> rfl))) (by unfold maxLen; omega) (by omega) (by simp; omega) ?_)
  intro v2 w2 hown2 hgrow2 _
  have hb2 : Below B w w2 := (hb1.alloc (by omega) _).grown hgrow2 (by simp; omega) (fun k hk => (hown1.lt k hk).1)
  have hk2 : Lib.OthersKept 5 none w w2 := (hk1.alloc _).grown hgrow2 (Lib.ownsRow_kind (hown1.alloc _))
  have hs2 := hb2.size
  go_wp2_with (at_builtin; refine wpList_append_own _ rfl _ _ 98 rfl B 5 i0 (.int .u8 0) 1 1 Tryz.underlying98 hi hz0 hz1 hz2 rfl (by decide) _ _ _ rfl hown2 ⟨blk, 1, none⟩ (r.length + 1) 31 (Lib.byteCells (d :: r)) rfl (by rw [Lib.byteCells_length]; simp) (cellsB Hc.out hk2 Hkind.out) cells_one' (by unfold maxLen; omega) (by omega) (by omega) ?_)
  intro v3 w3 hown3 hgrow3 _
  have hb3 : Below B w w3 := hb2.grown hgrow3 (by omega) (fun k hk => (hown2.lt k hk).1)
  have hs3 := hb3.size
  go_wp2_with fail
  refine wp_loop_rounds 1 ?_
  rw [rounds_succ]
  go_wp2_with (at_builtin; refine wpList_append_own _ rfl _ _ 98 rfl B 5 i0 (.int .u8 0) 1 1 Tryz.underlying98 hi hz0 hz1 hz2 rfl (by decide) _ _ _ rfl (hown3.alloc _) ⟨w3.heap.size, 0, none⟩ 1 1 [Value.int .u8 101] rfl rfl (by intro j u' hj; match j, hj with | 0, hj => simp at hj; subst hj; simp [Addr.add]) (by intro u' hu'; simp at hu'; (first | (subst hu'; rfl) | (rcases hu' with rfl | rfl <;> rfl) | (rcases hu' with rfl | rfl | rfl <;> rfl))) (by unfold maxLen; omega) (by omega) (by simp; omega) ?_)
  intro v4 w4 hown4 hgrow4 _
  have hb4 : Below B w w4 := (hb3.alloc (by omega) _).grown hgrow4 (by simp; omega) (fun k hk => (hown3.lt k hk).1)
  have hs4 := hb4.size
  go_wp2_with (at_builtin; refine wpList_append_own _ rfl _ _ 98 rfl B 5 i0 (.int .u8 0) 1 1 Tryz.underlying98 hi hz0 hz1 hz2 rfl (by decide) _ _ _ rfl (hown4.alloc _) ⟨w4.heap.size, 0, none⟩ 1 1 [Value.int .u8 45] rfl rfl (by intro j u' hj; match j, hj with | 0, hj => simp at hj; subst hj; simp [Addr.add]) (by intro u' hu'; simp at hu'; (first | (subst hu'; rfl) | (rcases hu' with rfl | rfl <;> rfl) | (rcases hu' with rfl | rfl | rfl <;> rfl))) (by unfold maxLen; omega) (by omega) (by simp; omega) ?_)
  intro v5 w5 hown5 hgrow5 _
  have hb5 : Below B w w5 := (hb4.alloc (by omega) _).grown hgrow5 (by simp; omega) (fun k hk => (hown4.lt k hk).1)
  have hs5 := hb5.size
  go_wp2_with (at_builtin; refine wpList_append_own _ rfl _ _ 98 rfl B 5 i0 (.int .u8 0) 1 1 Tryz.underlying98 hi hz0 hz1 hz2 rfl (by decide) _ _ _ rfl (hown5.alloc _) ⟨w5.heap.size, 0, none⟩ 3 3 [Value.int .u8 ((K : Int) / 100 + 48), Value.int .u8 ((K : Int) / 10 % 10 + 48), Value.int .u8 ((K : Int) % 10 + 48)] rfl rfl (by intro j u' hj; match j, hj with | 0, hj => simp at hj; subst hj; simp [Addr.add] | 1, hj => simp at hj; subst hj; simp [Addr.add] | 2, hj => simp at hj; subst hj; simp [Addr.add]) (by intro u' hu'; simp at hu'; (first | (subst hu'; rfl) | (rcases hu' with rfl | rfl <;> rfl) | (rcases hu' with rfl | rfl | rfl <;> rfl))) (by unfold maxLen; omega) (by omega) (by simp; omega) ?_)
  intro v6 w6 hown6 hgrow6 _
  have hb6 : Below B w w6 := (hb5.alloc (by omega) _).grown hgrow6 (by simp; omega) (fun k hk => (hown5.lt k hk).1)
  have hs6 := hb6.size
  go_wp2_with fail
  go_ret
  refine ⟨v6, 0 + 1 + 1 + (r.length + 1) + 1 + 1 + 3, rfl, ?_, hb6⟩
  have he : Lib.byteCells (eText (c :: d :: r) (dp - 1)) = _ := e_neg3 hE hK0 hK
  rw [he]
  simpa [Lib.byteCells, pointed] using hown6
open Go Go.RowKit Go.Sort
set_option maxRecDepth 100000
theorem fmtE_call (B blk : Nat) (l : List UInt8) (dp : Int) (hl : 1 ≤ l.length) (hl2 : l.length ≤ 20) (hd0 : -900 ≤ dp) (hd1 : dp ≤ 900) (sv : Value) (w : World) (hB : B ≤ w.heap.size) (hown : w.ownsRow B 5 1 sv 0 [])
    (hkind : ∃ arr fz, w.heap[blk]? = some (.cells arr 259 fz)) (hcs : ∀ j (hj : j < l.length), w.cell? ⟨blk, j, none⟩ = some (.int .u8 (l[j].toNat : Int))) :
    Calls Tryz.prog 221 #[sv, .bool false, .slice (some ⟨blk, 0, none⟩) 32 32, .int .i64 dp, .int .i64 l.length, .int .i64 ((l.length : Int) - 1), .int .u8 101, .bool true] w fun e w' =>
      ∃ v' n, e = .returned v' ∧ w'.ownsRow B 5 1 v' n (Lib.byteCells (eText l (dp - 1))) ∧ Below B w w' := by
  match l, hl with
  | [c], _ =>
    have hc := hcs 0 (by simp)
    rcases Int.lt_or_le (dp - 1) 0 with h | h
    · obtain ⟨K, hK⟩ : ∃ K : Nat, dp - 1 = -(K : Int) := ⟨(dp - 1).natAbs, by omega⟩
      by_cases h1 : K < 10
      · exact fmtE_on1 B blk c dp K hK (by omega) h1 sv w hB hown hc
      · by_cases h2 : K < 100
        · exact fmtE_on2 B blk c dp K hK (by omega) (by omega) h2 sv w hB hown hc
        · exact fmtE_on3 B blk c dp K hK (by omega) (by omega) (by omega) sv w hB hown hc
    · obtain ⟨K, hK⟩ : ∃ K : Nat, dp - 1 = (K : Int) := ⟨(dp - 1).toNat, by omega⟩
      by_cases h1 : K < 10
      · exact fmtE_op1 B blk c dp K hK h1 sv w hB hown hc
      · by_cases h2 : K < 100
        · exact fmtE_op2 B blk c dp K hK (by omega) h2 sv w hB hown hc
        · exact fmtE_op3 B blk c dp K hK (by omega) (by omega) sv w hB hown hc
  | c :: d :: r, _ =>
    have hc := hcs 0 (by simp)
    have hcr : ∀ j (hj : j < (d :: r).length), w.cell? ⟨blk, 1 + j, none⟩ = some (.int .u8 ((d :: r)[j].toNat : Int)) := fun j hj => by
      have h := hcs (j + 1) (by simp at hj ⊢; omega)
      rw [Nat.add_comm 1 j]
      exact h
    have hr : r.length ≤ 25 := by simp at hl2; omega
    rw [show (((c :: d :: r).length : Nat) : Int) = (r.length : Int) + 2 by simp; omega, show (r.length : Int) + 2 - 1 = (r.length : Int) + 1 by omega]
    rcases Int.lt_or_le (dp - 1) 0 with h | h
    · obtain ⟨K, hK⟩ : ∃ K : Nat, dp - 1 = -(K : Int) := ⟨(dp - 1).natAbs, by omega⟩
      by_cases h1 : K < 10
      · exact fmtE_mn1 B blk c dp K hK (by omega) h1 sv w hB hown hc d r hr hkind hcr
      · by_cases h2 : K < 100
        · exact fmtE_mn2 B blk c dp K hK (by omega) (by omega) h2 sv w hB hown hc d r hr hkind hcr
        · exact fmtE_mn3 B blk c dp K hK (by omega) (by omega) (by omega) sv w hB hown hc d r hr hkind hcr
    · obtain ⟨K, hK⟩ : ∃ K : Nat, dp - 1 = (K : Int) := ⟨(dp - 1).toNat, by omega⟩
      by_cases h1 : K < 10
      · exact fmtE_mp1 B blk c dp K hK h1 sv w hB hown hc d r hr hkind hcr
      · by_cases h2 : K < 100
        · exact fmtE_mp2 B blk c dp K hK (by omega) h2 sv w hB hown hc d r hr hkind hcr
        · exact fmtE_mp3 B blk c dp K hK (by omega) (by omega) sv w hB hown hc d r hr hkind hcr
end Go.Proofs.YtkeibmkcgnppeaaGreatDoor

/- A reflective evaluator of the model's code, part G: writing: stores, append, copy. -/
import Derived.Test.YtiamenedboifeabGreatDoorRxF
import Derived.Deep.AppendSrc
import Derived.Deep.Upon
namespace Go.Proofs.YtiamenedboifeabGreatDoor.Rx
open Go.Instr

/-- Is it surely the value of one cell? -/
def oneA : AV → Bool
  | .unk => false
  | .lit v => v.oneCell'
  | .agg _ => false
  | .tuple _ => false
  | _ => true

theorem VR.one {ρ : Place} {a : AV} {w : Value} (h : VR ρ a w) (ha : oneA a = true) : w.oneCell' = true := by
  cases a with
  | unk => simp [oneA] at ha
  | lit v => simp only [VR] at h; subst h; exact ha
  | ptr => simp only [VR] at h; obtain ⟨_, _, rfl⟩ := h; rfl
  | slice => simp only [VR] at h; obtain ⟨_, _, _, rfl, _⟩ := h; rfl
  | eslice => simp only [VR] at h; obtain ⟨_, _, rfl⟩ := h; rfl
  | mapp => simp only [VR] at h; obtain ⟨_, _, rfl⟩ := h; rfl
  | func => simp only [VR] at h; obtain ⟨_, _, rfl, _⟩ := h; rfl
  | iface => simp only [VR] at h; obtain ⟨_, rfl, _⟩ := h; rfl
  | agg => simp [oneA] at ha
  | tuple => simp [oneA] at ha
  | yld => simp only [VR] at h; obtain ⟨_, _, rfl⟩ := h; rfl
  | one => simpa only [VR] using h
  | ex => simp only [VR] at h; exact h.2
  | nan => simp only [VR] at h; obtain ⟨_, rfl, _⟩ := h; rfl

def oneAll : List AV → Bool
  | [] => true
  | a :: as => match oneA a with
    | true => oneAll as
    | false => false

theorem VRs.one {ρ : Place} : ∀ {a : List AV} {w : List Value}, VRs ρ a w → oneAll a = true → ∀ v ∈ w, v.oneCell' = true
  | [], w, h, _, v, hv => by simp only [VRs] at h; subst h; simp at hv
  | a :: as, w, h, ho, v, hv => by
    simp only [VRs] at h
    obtain ⟨x, xs, rfl, h1, h2⟩ := h
    simp only [oneAll] at ho
    split at ho
    · rename_i h0
      rcases List.mem_cons.1 hv with rfl | hv
      · exact h1.one h0
      · exact VRs.one h2 ho v hv
    · cases ho

def putFrom (cs : T AV) : Nat → List AV → T AV
  | _, [] => cs
  | off, x :: xs => putFrom (cs.set off x) (off + 1) xs

theorem cellOf_putFrom : ∀ (l : List AV) (cs : T AV) (off i : Nat), cellOf (putFrom cs off l) i = if off ≤ i ∧ i < off + l.length then (l[i - off]?).getD .unk else cellOf cs i
  | [], cs, off, i => by simp only [putFrom, List.length_nil]; rw [if_neg (by omega)]
  | x :: xs, cs, off, i => by
    simp only [putFrom, List.length_cons]
    rw [cellOf_putFrom xs]
    by_cases h : off + 1 ≤ i ∧ i < off + 1 + xs.length
    · rw [if_pos h, if_pos (by omega)]
      obtain ⟨k, rfl⟩ : ∃ k, i = off + 1 + k := ⟨i - (off + 1), by omega⟩
      rw [show off + 1 + k - off = k + 1 from by omega, show off + 1 + k - (off + 1) = k from by omega]
      simp
    · rw [if_neg h]
      by_cases e : i = off
      · subst e
        rw [if_pos (by omega)]
        simp [cellOf, T.get_set]
      · rw [if_neg (by omega)]
        simp [cellOf, T.get_set, e]

theorem setCell_here {w : World} {b o : Nat} {arr : Array Value} {e : TypeId} {fz : Nat × Nat} (v : Value) (h : w.heap[b]? = some (.cells arr e fz)) :
    (w.setCell ⟨b, o, none⟩ v).heap[b]? = some (.cells (arr.setIfInBounds o v) e fz) := by
  obtain ⟨lo, hi⟩ := fz
  have hlt : b < w.heap.size := by
    rcases Nat.lt_or_ge b w.heap.size with k | k
    · exact k
    · rw [Array.getElem?_eq_none k] at h; cases h
  simp only [World.setCell]
  rw [Array.getElem?_modify]
  simp [h]

theorem setCells_here : ∀ (vs : List Value) (o : Nat) (w : World) (b : Nat) (arr : Array Value) (e : TypeId) (fz : Nat × Nat), w.heap[b]? = some (.cells arr e fz) →
    ∃ arr', (w.setCells b o vs).heap[b]? = some (.cells arr' e fz) ∧ arr'.size = arr.size ∧ (∀ j, o ≤ j → j < o + vs.length → j < arr.size → arr'[j]? = vs[j - o]?) ∧
      (∀ j, j < o ∨ o + vs.length ≤ j → arr'[j]? = arr[j]?)
  | [], o, w, b, arr, e, fz, h => ⟨arr, h, rfl, fun j h1 h2 _ => by simp at h2; omega, fun _ _ => rfl⟩
  | v :: vs, o, w, b, arr, e, fz, h => by
    obtain ⟨arr', h1, h2, h3, h4⟩ := setCells_here vs (o + 1) (w.setCell ⟨b, o, none⟩ v) b _ e fz (setCell_here v h)
    refine ⟨arr', h1, by simpa using h2, fun j j1 j2 j3 => ?_, fun j hj => ?_⟩
    · by_cases ej : j = o
      · subst ej
        rw [h4 j (by omega)]
        simp [j3]
      · rw [h3 j (by omega) (by simp at j2; omega) (by simpa using j3)]
        obtain ⟨k, rfl⟩ : ∃ k, j = o + 1 + k := ⟨j - (o + 1), by omega⟩
        rw [show o + 1 + k - o = k + 1 from by omega, show o + 1 + k - (o + 1) = k from by omega]
        simp
    · simp at hj
      rw [h4 j (by omega)]
      rw [Array.getElem?_setIfInBounds_ne (by omega)]

theorem setCells_size (b : Nat) : ∀ (vs : List Value) (o : Nat) (w : World), (w.setCells b o vs).heap.size = w.heap.size
  | [], _, _ => rfl
  | v :: vs, o, w => by rw [World.setCells, setCells_size b vs]; simp

theorem setCells_else (b : Nat) : ∀ (vs : List Value) (o : Nat) (w : World) (k : Nat), k ≠ b → (w.setCells b o vs).heap[k]? = w.heap[k]?
  | [], _, _, _, _ => rfl
  | v :: vs, o, w, k, h => by
    rw [World.setCells, setCells_else b vs _ _ k h]
    exact RowKit.Below.heap_setCell w _ v k h

theorem setCells_tape (b : Nat) : ∀ (vs : List Value) (o : Nat) (w : World), (w.setCells b o vs).tape = w.tape
  | [], _, _ => rfl
  | v :: vs, o, w => by rw [World.setCells, setCells_tape b vs]; rfl

/-- Cells are written into a block. -/
theorem BR.write {ρ : Place} {l : Loc} {elem n : Nat} {cs : T AV} {row : Bool} {fz : Nat} {back : Bool} {w : World} (h : BR ρ l (.cells elem n cs row fz back) w)
    {off : Nat} {vals : List AV} {vs : List Value} (hv : VRs ρ vals vs) (_hn : off + vals.length ≤ n) :
    BR ρ l (.cells elem n (putFrom cs off vals) row fz back) (w.setCells l.blk (l.off + off) vs) := by
  obtain ⟨arr, lo, hi, h1, h0, h2, h3, h4, h5, h6, h7⟩ := h
  obtain ⟨arr', k1, k2, k3, k4⟩ := setCells_here vs (l.off + off) w l.blk arr elem (lo, hi) h1
  have hlen := hv.length
  refine ⟨arr', lo, hi, k1, h0, h2, by omega, fun e => by rw [k2]; exact h4 e, fun i hi' => ?_, h6, h7⟩
  rw [cellOf_putFrom]
  by_cases hc : off ≤ i ∧ i < off + vals.length
  · rw [if_pos hc, k3 (l.off + i) (by omega) (by omega) (by omega)]
    rw [show l.off + i - (l.off + off) = i - off from by omega]
    obtain ⟨x, hx⟩ : ∃ x, vals[i - off]? = some x := ⟨_, List.getElem?_eq_getElem (by omega)⟩
    obtain ⟨v, hv1, hv2⟩ := hv.get _ x hx
    rw [hx]
    exact ⟨v, hv1, by simpa using hv2⟩
  · rw [if_neg hc, k4 (l.off + i) (by omega)]
    exact h5 i hi'

theorem BR.can {ρ : Place} {l : Loc} {elem n : Nat} {cs : T AV} {row : Bool} {fz : Nat} {back : Bool} {w : World} (h : BR ρ l (.cells elem n cs row fz back) w)
    {off k : Nat} (hn : l.off + off + k ≤ l.ext) (hf : fz ≤ off) : ∀ j, j < k → (w.cell? ⟨l.blk, l.off + off + j, none⟩).isSome = true ∧ w.frozen? ⟨l.blk, l.off + off + j, none⟩ = false := by
  obtain ⟨arr, lo, hi, h1, h0, h2, h3, h4, h5, h6, h7⟩ := h
  intro j hj
  constructor
  · simp only [World.cell?, h1]
    rw [Array.getElem?_eq_getElem (by omega)]
    rfl
  · have := h6 (l.off + off + j) (by omega) (by omega)
    simp only [World.frozen?, h1]
    simpa using this

/-- The end of a store into a known block. -/
theorem Step.write {E : Env} {base : Nat} {ρ : Place} {M : Mem} {w : World} (hc : Cons E base ρ M w) {b : Nat} {elem n : Nat} {cs : T AV} {row : Bool} {fz : Nat} {back : Bool} {l : Loc}
    (hx : M.bl.get b = some (.cells elem n cs row fz back)) (hl : ρ b = some l) {off : Nat} {vals : List AV} {vs : List Value} (hv : VRs ρ vals vs) (hn : off + vals.length ≤ n) :
    Step E base ρ w M ρ (w.setCells l.blk (l.off + off) vs) ⟨M.next, M.bl.set b (.cells elem n (putFrom cs off vals) row fz back)⟩ := by
  obtain ⟨l', hl', hbr⟩ := hc.blk b _ hx
  rw [hl, Option.some.injEq] at hl'
  subst hl'
  exact Step.over hc hx hl (setCells_size _ _ _ _) (fun k hk => setCells_else _ _ _ _ k hk) (hbr.write hv hn) (World.os_setCells _ _ _ _) (setCells_tape _ _ _ _) (World.output_setCells _ _ _ _)

def storeA (P : Program) (M : Mem) (t : TypeId) (p v : AV) : Option Mem :=
  match p with
  | .ptr b off => match v.cells? with
    | some vals => match oneAll vals with
      | true => match P.info? t with
        | some i => match M.bl.get b with
          | some (.cells elem n cs row fz back) =>
            cond (Nat.beq vals.length i.size && Nat.ble (off + vals.length) n && Nat.ble fz off) (some ⟨M.next, M.bl.set b (.cells elem n (putFrom cs off vals) row fz back)⟩) none
          | _ => none
        | none => none
      | false => none
    | none => none
  | _ => none

theorem storeA_ok {E : Env} {base : Nat} {ρ : Place} {M M' : Mem} {w : World} (hc : Cons E base ρ M w) {t : TypeId} {p v : AV} {x y : Value} (hp : VR ρ p x) (hv : VR ρ v y)
    (h : storeA E.P M t p v = some M') : ∃ w', (Instr.storeAt t x y).run E.P w = .ok () w' ∧ Step E base ρ w M ρ w' M' := by
  unfold storeA at h
  split at h
  · rename_i b off
    split at h
    · rename_i vals hvals
      split at h
      · rename_i hone
        split at h
        · rename_i i hi
          split at h
          · rename_i elem n cs row fz back hb
            cases hq : (Nat.beq vals.length i.size && Nat.ble (off + vals.length) n && Nat.ble fz off) with
            | false => rw [hq] at h; simp at h
            | true =>
              rw [hq] at h
              simp only [cond_true, Option.some.injEq] at h
              simp only [Bool.and_eq_true, Nat.ble_eq] at hq
              obtain ⟨⟨q1, q2⟩, q3⟩ := hq
              have q1 : vals.length = i.size := Nat.eq_of_beq_eq_true q1
              subst h
              simp only [VR] at hp
              obtain ⟨l, hl, rfl⟩ := hp
              have hcs := hv.cells hvals
              have hlen := hcs.length
              obtain ⟨l', hl', hbr⟩ := hc.blk b _ hb
              rw [hl, Option.some.injEq] at hl'
              subst hl'
              have hext : l.off + n ≤ l.ext := by obtain ⟨_, _, _, _, _, h2, _⟩ := hbr; exact h2
              have hcan := hbr.can (off := off) (k := vals.length) (by omega) q3
              refine ⟨w.setCells l.blk (l.off + off) y.cells.toList, ?_, Step.write hc hb hl hcs q2⟩
              have hst := run_storeCells_cells (P := E.P) l.blk (l.off + off) y.cells.toList 0 w (fun j hj => (by simpa using (hcan j (by omega)).1)) (fun j hj => by simpa using (hcan j (by omega)).2) (hcs.one hone)
              simp only [Nat.add_zero] at hst
              have hsz : y.cells.size = i.size := by
                simp only [Array.length_toList] at hlen
                omega
              simp [Instr.storeAt, sureAddr, storeVar, run_sizeOf hi, hsz, hst]
          · cases h
        · cases h
      · cases h
    · cases h
  · cases h

/-! append -/

def bytesA : List UInt8 → List AV
  | [] => []
  | b :: bs => .lit (.int .u8 b.toNat) :: bytesA bs

theorem bytesA_ok {ρ : Place} : ∀ (l : List UInt8), VRs ρ (bytesA l) (l.map fun b => Value.int .u8 b.toNat)
  | [] => by simp [bytesA, VRs]
  | b :: bs => by
    simp only [bytesA, List.map_cons, VRs]
    exact ⟨_, _, rfl, rfl, bytesA_ok bs⟩

/-- What the second argument of an append yields: how many elements, and their cells. -/
def srcA (P : Program) (M : Mem) (tx : TypeId) (x : AV) (size : Nat) : Option (Nat × List AV) :=
  match P.underlying tx with
  | some (.slice _) => match x with
    | .lit (.slice none 0 _) => some (0, [])
    | .slice b off len _ _ => match readA M b off (len * size) with
      | some l => match oneAll l with
        | true => some (len, l)
        | false => none
      | none => none
    | _ => none
  | some .string => match x with
    | .lit (.string s) => match size with
      | 1 => some (s.size, bytesA s.data.toList)
      | _ => none
    | _ => none
  | _ => none

theorem srcA_ok {E : Env} {base : Nat} {ρ : Place} {M : Mem} {w : World} (hc : Cons E base ρ M w) {tx : TypeId} {x : AV} {y : Value} {size n : Nat} {l : List AV} (hx : VR ρ x y)
    (h : srcA E.P M tx x size = some (n, l)) : ∃ news, Src E.P size tx y n news w ∧ VRs ρ l news := by
  unfold srcA at h
  split at h
  · rename_i e hu
    split at h
    · rename_i c
      simp only [Option.some.injEq, Prod.mk.injEq] at h
      obtain ⟨rfl, rfl⟩ := h
      simp only [VR] at hx
      subst hx
      exact ⟨[], Src.ofNil w hu c, by simp [VRs]⟩
    · rename_i b off len cap esz
      split at h
      · rename_i q hq
        split at h
        · rename_i hone
          simp only [Option.some.injEq, Prod.mk.injEq] at h
          obtain ⟨rfl, rfl⟩ := h
          simp only [VR] at hx
          obtain ⟨lc, c, hlc, rfl, _⟩ := hx
          obtain ⟨l', xs, k1, k2, k3, k4⟩ := readA_ok hc hq
          rw [hlc, Option.some.injEq] at k1
          subst k1
          refine ⟨xs, Src.ofSlice w hu _ len c xs k2 (fun j u hj => ?_) (k3.one hone), k3⟩
          rw [addr_add]
          exact k4 j u hj
        · cases h
      · cases h
    · cases h
  · rename_i hu
    split at h
    · rename_i s
      split at h
      · simp only [Option.some.injEq, Prod.mk.injEq] at h
        obtain ⟨rfl, rfl⟩ := h
        simp only [VR] at hx
        subst hx
        exact ⟨_, Src.ofString w hu s, bytesA_ok _⟩
      · cases h
    · cases h
  · cases h

theorem zeroCells_size (z : Array Value) (n : Nat) : (Builtin.zeroCells z n).size = n * z.size := by simp [Builtin.zeroCells]

/-- A new row behind an append that grows. -/
theorem Step.grow {E : Env} {base : Nat} {ρ : Place} {M : Mem} {w : World} (hc : Cons E base ρ M w) (hbase : base ≤ w.heap.size) {e : TypeId} {cells : List AV} {xs : List Value} {z : Array Value} {rest : Nat}
    (hx : VRs ρ cells xs) (back : Bool) (fz : Nat) :
    Step E base ρ w M (ρ.upd M.next ⟨w.heap.size, 0, xs.length + (Builtin.zeroCells z rest).size, undef⟩) (w.drew.alloc (.cells (xs.toArray ++ Builtin.zeroCells z rest) e))
      ⟨M.next + 1, M.bl.set M.next (.cells e cells.length (T.ofList cells) true fz back)⟩ := by
  have hlen := hx.length
  have hnone : ρ M.next = none := by
    cases hq : ρ M.next with
    | none => rfl
    | some l => have := hc.bound _ _ hq; omega
  refine Step.push hc hbase hnone (by omega) (by omega) (Nat.le_refl _) rfl (by simp) (fun k hk => ?_) ?_ rfl rfl rfl
  · simp only [World.alloc]
    rw [Array.getElem?_push_lt (by simpa using hk)]
    rw [Array.getElem?_eq_getElem hk]; rfl
  · refine ⟨xs.toArray ++ Builtin.zeroCells z rest, 0, 0, (by show (w.heap.push _)[w.heap.size]? = _; simp), rfl, by simp only []; omega, by simp, fun h => (by cases h), fun i hi => ?_, fun o _ _ => by omega, fun _ => by omega⟩
    have hi' : i < xs.length := by omega
    obtain ⟨a, ha⟩ : ∃ a, cells[i]? = some a := ⟨_, List.getElem?_eq_getElem hi⟩
    obtain ⟨v, hv, hr⟩ := hx.get i a ha
    refine ⟨v, ?_, ?_⟩
    · simp only [Nat.zero_add]
      rw [Array.getElem?_append_left (by simpa using hi')]
      simpa using hv
    · simp only [cellOf, T.get_ofList, ha]
      exact hr.mono (Place.le_upd hnone)

def big : Nat := 68719476736

def appendA (E : Env) (M : Mem) (t tx : TypeId) (s x : AV) : Option (AV × Mem) :=
  match E.P.underlying t with
  | some (.slice e) => match E.P.info? e with
    | some i => match i.zero with
      | some z => match srcA E.P M tx x i.size with
        | some (n, news) => match s with
          | .lit (.slice none 0 0) => match n with
            | 0 => some (s, M)
            | _ + 1 => cond (Nat.ble n big && Nat.ble i.bytes 1024 && Nat.beq z.cells.size i.size) (some (.slice M.next 0 n none i.size, ⟨M.next + 1, M.bl.set M.next (.cells e news.length (T.ofList news) true 0 false)⟩)) none
          | .slice b off len (some c) esz =>
            cond (Nat.ble (len + n) c)
              (match M.bl.get b with
               | some (.cells elem m cs row fz back) =>
                 cond (Nat.ble (off + len * i.size + news.length) m && Nat.ble fz (off + len * i.size))
                   (some (.slice b off (len + n) (some c) esz, ⟨M.next, M.bl.set b (.cells elem m (putFrom cs (off + len * i.size) news) row fz back)⟩)) none
               | _ => none)
              (match readA M b off (len * i.size) with
               | some olds => cond (Nat.ble (len + n) big && Nat.ble i.bytes 1024 && Nat.beq z.cells.size i.size)
                   (some (.slice M.next 0 (len + n) none i.size, ⟨M.next + 1, M.bl.set M.next (.cells e (olds ++ news).length (T.ofList (olds ++ news)) true 0 false)⟩)) none
               | none => none)
          | .slice b off len none esz => match n with
            | 0 => some (s, M)
            | _ + 1 => match M.bl.get b with
              | some (.cells elem _m _cs row fz back) => match readA M b off (len * i.size) with
                | some olds =>
                  cond (Nat.beq off 0 && Nat.beq esz i.size && Nat.beq elem e && row && Nat.ble fz (len * i.size) && Nat.ble (len + n) big && Nat.ble i.bytes 1024 && Nat.beq z.cells.size i.size)
                    (some (.slice M.next 0 (len + n) none i.size, ⟨M.next + 1, (M.bl.del b).set M.next (.cells e (olds ++ news).length (T.ofList (olds ++ news)) true fz back)⟩)) none
                | none => none
              | _ => none
          | _ => none
        | none => none
      | none => none
    | none => none
  | _ => none

theorem fits_small {need old bytes : Nat} (h : old < need) (h1 : need ≤ big) (h2 : bytes ≤ 1024) : Builtin.nextslicecap need old * bytes ≤ 281474976710656 := by
  refine growslice_fits h ?_
  have : need * bytes ≤ big * 1024 := Nat.mul_le_mul h1 h2
  unfold big at this
  omega

theorem appendA_ok {E : Env} {base : Nat} {ρ : Place} {M M' : Mem} {w : World} (hc : Cons E base ρ M w) (hbase : base ≤ w.heap.size) {t tx ty : TypeId} {s x v : AV} {u y : Value} (hs : VR ρ s u) (hx : VR ρ x y)
    (h : appendA E M t tx s x = some (v, M')) : ∃ z w' ρ', (Builtin.append_ #[t, tx] ty #[u, y]).run E.P w = .ok z w' ∧ VR ρ' v z ∧ Step E base ρ w M ρ' w' M' := by
  unfold appendA at h
  split at h
  · rename_i e hu
    split at h
    · rename_i i hi
      split at h
      · rename_i z hz
        split at h
        · rename_i n news hsrc
          obtain ⟨ns, hSrc, hns⟩ := srcA_ok hc hx hsrc
          have hnl := hns.length
          have hsl := hSrc.newsLen
          split at h
          · -- nil
            simp only [VR] at hs
            subst hs
            split at h
            · simp only [Option.some.injEq, Prod.mk.injEq] at h
              obtain ⟨rfl, rfl⟩ := h
              have : ns = [] := by simpa using hSrc.newsLen
              subst this
              exact ⟨_, w, ρ, run_append_nothing w t tx ty e i hu hi none 0 0 (Nat.le_refl _) y hSrc, by simp [VR], Step.refl hc⟩
            · rename_i k
              cases hq : (Nat.ble (k + 1) big && Nat.ble i.bytes 1024 && Nat.beq z.cells.size i.size) with
              | false => rw [hq] at h; simp at h
              | true =>
                rw [hq] at h
                simp only [cond_true, Option.some.injEq, Prod.mk.injEq] at h
                obtain ⟨rfl, rfl⟩ := h
                simp only [Bool.and_eq_true, Nat.ble_eq] at hq
                obtain ⟨⟨q1, q2⟩, q3⟩ := hq
                have q3 : z.cells.size = i.size := Nat.eq_of_beq_eq_true q3
                have hrun := run_append_grow_src w t tx ty e i z hu hi hz none 0 0 [] (run_firstCells_none (P := E.P) w.drew i.size 0 0 0) y (k + 1) ns hSrc (by omega) (by unfold big at q1; omega)
                  (by rw [Nat.zero_add]; exact fits_small (by omega) q1 q2)
                simp only [List.nil_append, Nat.zero_add] at hrun
                have hcap := grownCap_ge w (k + 1) 0 e
                refine ⟨_, _, _, hrun, ?_, Step.grow hc hbase hns false 0⟩
                simp only [VR]
                refine ⟨_, grownCap w (k + 1) 0 e, Place.upd_same _ _ _, by simp, hcap, ?_⟩
                rw [zeroCells_size, q3, hsl]
                simp only [Nat.zero_add]
                rw [← Nat.add_mul]
                exact Nat.mul_le_mul_right _ (by omega)
          · -- a slice of a known capacity
            rename_i b off len c esz
            simp only [VR] at hs
            obtain ⟨l, c', hl, rfl, rfl⟩ := hs
            cases hfit : Nat.ble (len + n) c' with
            | true =>
              rw [hfit] at h
              simp only [cond_true] at h
              have hfit : len + n ≤ c' := by simpa [Nat.ble_eq] using hfit
              split at h
              · rename_i elem m cs row fz back hb
                cases hq : (Nat.ble (off + len * i.size + news.length) m && Nat.ble fz (off + len * i.size)) with
                | false => rw [hq] at h; simp at h
                | true =>
                  rw [hq] at h
                  simp only [cond_true, Option.some.injEq, Prod.mk.injEq] at h
                  obtain ⟨rfl, rfl⟩ := h
                  simp only [Bool.and_eq_true, Nat.ble_eq] at hq
                  obtain ⟨l', hl', hbr⟩ := hc.blk b _ hb
                  rw [hl, Option.some.injEq] at hl'
                  subst hl'
                  have hext : l.off + m ≤ l.ext := by obtain ⟨_, _, _, _, _, h2, _⟩ := hbr; exact h2
                  have hcan := hbr.can (off := off + len * i.size) (k := news.length) (by omega) hq.2
                  have hrun := run_append_room_src w t tx ty e i hu hi l.blk (l.off + off) len c' y n ns hSrc hfit
                    (fun j hj => by rw [Nat.add_assoc l.off]; exact (hcan j (by omega)).1) (fun j hj => by rw [Nat.add_assoc l.off]; exact (hcan j (by omega)).2)
                  refine ⟨_, _, ρ, hrun, ?_, ?_⟩
                  · simp only [VR]
                    exact ⟨l, c', hl, rfl, rfl⟩
                  · rw [Nat.add_assoc l.off]
                    exact Step.write hc hb hl hns hq.1
              · cases h
            | false =>
              rw [hfit] at h
              simp only [cond_false] at h
              have hfit : c' < len + n := by
                rcases Nat.lt_or_ge c' (len + n) with k | k
                · exact k
                · have : Nat.ble (len + n) c' = true := by simpa [Nat.ble_eq] using k
                  rw [this] at hfit; cases hfit
              split at h
              · rename_i olds holds
                cases hq : (Nat.ble (len + n) big && Nat.ble i.bytes 1024 && Nat.beq z.cells.size i.size) with
                | false => rw [hq] at h; simp at h
                | true =>
                  rw [hq] at h
                  simp only [cond_true, Option.some.injEq, Prod.mk.injEq] at h
                  obtain ⟨rfl, rfl⟩ := h
                  simp only [Bool.and_eq_true, Nat.ble_eq] at hq
                  obtain ⟨⟨q1, q2⟩, q3⟩ := hq
                  have q3 : z.cells.size = i.size := Nat.eq_of_beq_eq_true q3
                  obtain ⟨l', xs, k1, k2, k3, k4⟩ := readA_ok hc holds
                  rw [hl, Option.some.injEq] at k1
                  subst k1
                  have hold : (Builtin.firstCells i.size len (.slice (some ⟨l.blk, l.off + off, none⟩) len c')).run E.P w.drew = .ok xs.toArray w.drew :=
                    run_firstCells_some w.drew i.size len _ len c' xs k2 (fun j u hj => by rw [addr_add]; exact k4 j u hj)
                  have hrun := run_append_grow_src w t tx ty e i z hu hi hz _ len c' xs hold y n ns hSrc hfit (by unfold big at q1; omega) (fits_small hfit q1 q2)
                  have hcap := grownCap_ge w (len + n) c' e
                  refine ⟨_, _, _, hrun, ?_, Step.grow hc hbase (k3.append hns) false 0⟩
                  simp only [VR]
                  refine ⟨_, grownCap w (len + n) c' e, Place.upd_same _ _ _, by simp, hcap, ?_⟩
                  rw [zeroCells_size, q3, List.length_append, hsl, k2, ← Nat.add_mul, ← Nat.add_mul]
                  simp only [Nat.zero_add]
                  exact Nat.mul_le_mul_right _ (by omega)
              · cases h
          · -- a slice of an unknown capacity
            rename_i b off len esz
            split at h
            · simp only [Option.some.injEq, Prod.mk.injEq] at h
              obtain ⟨rfl, rfl⟩ := h
              have hs0 := hs
              simp only [VR] at hs
              obtain ⟨l, c, hl, rfl, hcap⟩ := hs
              have : ns = [] := by simpa using hSrc.newsLen
              subst this
              exact ⟨_, w, ρ, run_append_nothing w t tx ty e i hu hi _ len c hcap.1 y hSrc, hs0, Step.refl hc⟩
            · rename_i k
              simp only [VR] at hs
              obtain ⟨l, c, hl, rfl, hcap⟩ := hs
              split at h
              · rename_i elem m cs row fz back hb
                split at h
                · rename_i olds holds
                  cases hq : (Nat.beq off 0 && Nat.beq esz i.size && Nat.beq elem e && row && Nat.ble fz (len * i.size) && Nat.ble (len + (k + 1)) big && Nat.ble i.bytes 1024 && Nat.beq z.cells.size i.size) with
                  | false => rw [hq] at h; simp at h
                  | true =>
                    rw [hq] at h
                    simp only [cond_true, Option.some.injEq, Prod.mk.injEq] at h
                    obtain ⟨rfl, rfl⟩ := h
                    simp only [Bool.and_eq_true, Nat.ble_eq] at hq
                    obtain ⟨⟨⟨⟨⟨⟨⟨q0, q1⟩, q2⟩, q3⟩, q4⟩, q5⟩, q6⟩, q7⟩ := hq
                    have q0 : off = 0 := Nat.eq_of_beq_eq_true q0
                    have q1 : esz = i.size := Nat.eq_of_beq_eq_true q1
                    have q2 : elem = e := Nat.eq_of_beq_eq_true q2
                    have q7 : z.cells.size = i.size := Nat.eq_of_beq_eq_true q7
                    subst q0 q1 q2
                    obtain ⟨l', xs, k1, k2, k3, k4⟩ := readA_ok hc holds
                    rw [hl, Option.some.injEq] at k1
                    subst k1
                    obtain ⟨l', hl', hbr⟩ := hc.blk b _ hb
                    rw [hl, Option.some.injEq] at hl'
                    subst hl'
                    have hnone : ρ M.next = none := by
                      cases hq : ρ M.next with
                      | none => rfl
                      | some l => have := hc.bound _ _ hq; omega
                    have hall := k3.append hns
                    have hlo := k3.length
                    have hsl : ns.length = (k + 1) * i.size := hsl
                    by_cases hroom : len + (k + 1) ≤ c
                    · -- there is room
                      have hmul : (len + (k + 1)) * i.size ≤ c * i.size := Nat.mul_le_mul_right _ hroom
                      rw [Nat.add_mul] at hmul
                      have hcan := hbr.can (off := len * i.size) (k := news.length) (by omega) q4
                      have hrun := run_append_room_src w t tx ty elem i hu hi l.blk (l.off + 0) len c y (k + 1) ns hSrc hroom
                        (fun j hj => by rw [Nat.add_zero]; exact (hcan j (by omega)).1) (fun j hj => by rw [Nat.add_zero]; exact (hcan j (by omega)).2)
                      refine ⟨_, _, ρ.upd M.next l, hrun, ?_, ?_⟩
                      · simp only [VR]
                        exact ⟨l, c, Place.upd_same _ _ _, rfl, hroom, hcap.2⟩
                      · obtain ⟨arr, lo, hi', h1, h0, h2, h3, h4, h5, h6, h7⟩ := hbr
                        obtain ⟨arr', a1, a2, a3, a4⟩ := setCells_here ns (l.off + 0 + len * i.size) w l.blk arr elem (lo, hi') h1
                        refine Step.turn hc hb hl hnone (Nat.le_refl _) (by omega) rfl (setCells_size _ _ _ _) (fun q hq => setCells_else _ _ _ _ q hq) ?_ (World.os_setCells _ _ _ _) (setCells_tape _ _ _ _) (World.output_setCells _ _ _ _)
                        refine ⟨arr', lo, hi', a1, h0, ?_, by omega, (fun e => by cases e), fun j hj => ?_, h6, h7⟩
                        · simp only [List.length_append]
                          omega
                        · have hjl : j < (xs ++ ns).length := by rw [← hall.length]; exact hj
                          obtain ⟨a, ha⟩ : ∃ a, (olds ++ news)[j]? = some a := ⟨_, List.getElem?_eq_getElem hj⟩
                          obtain ⟨v, hv, hr⟩ := hall.get j a ha
                          refine ⟨v, ?_, ?_⟩
                          · by_cases hjo : j < xs.length
                            · rw [List.getElem?_append_left hjo] at hv
                              rw [a4 (l.off + j) (by omega)]
                              have := k4 j v hv
                              simp only [World.cell?, h1] at this
                              simpa using this
                            · rw [List.getElem?_append_right (by omega)] at hv
                              rw [List.length_append] at hjl
                              rw [a3 (l.off + j) (by omega) (by omega) (by omega)]
                              rw [show l.off + j - (l.off + 0 + len * i.size) = j - xs.length from by omega]
                              exact hv
                          · simp only [cellOf, T.get_ofList, ha]
                            exact hr.mono (Place.le_upd hnone)
                    · have hg : c < len + (k + 1) := by omega
                      have hold : (Builtin.firstCells i.size len (.slice (some ⟨l.blk, l.off + 0, none⟩) len c)).run E.P w.drew = .ok xs.toArray w.drew :=
                        run_firstCells_some w.drew i.size len _ len c xs k2 (fun j u hj => by rw [addr_add]; exact k4 j u hj)
                      have hrun := run_append_grow_src w t tx ty elem i z hu hi hz _ len c xs hold y (k + 1) ns hSrc hg (by unfold big at q5; omega) (fits_small hg q5 q6)
                      have hcap' := grownCap_ge w (len + (k + 1)) c elem
                      have hst := Step.grow (e := elem) (z := z.cells) (rest := grownCap w (len + (k + 1)) c elem - (len + (k + 1))) hc hbase hall back fz
                      refine ⟨_, _, ρ.upd M.next ⟨w.heap.size, 0, (xs ++ ns).length + (Builtin.zeroCells z.cells (grownCap w (len + (k + 1)) c elem - (len + (k + 1)))).size, undef⟩, hrun, ?_, ?_⟩
                      · simp only [VR]
                        refine ⟨_, grownCap w (len + (k + 1)) c elem, Place.upd_same _ _ _, by simp, hcap', ?_⟩
                        rw [zeroCells_size, q7, List.length_append, hsl, k2, ← Nat.add_mul, ← Nat.add_mul]
                        simp only [Nat.zero_add]
                        exact Nat.mul_le_mul_right _ (by omega)
                      · -- the old name is dropped
                        exact {
                          ext := hst.ext
                          cons := {
                            blk := fun d q hq => by
                              simp only [T.get_set, T.get_del] at hq
                              refine hst.cons.blk d q ?_
                              simp only [T.get_set]
                              split at hq
                              · rename_i e; rw [if_pos e]; exact hq
                              · rename_i e; rw [if_neg e]
                                split at hq
                                · cases hq
                                · exact hq
                            inj := fun d d' q q' m m' hq hq' => by
                              simp only [T.get_set, T.get_del] at hq hq'
                              refine hst.cons.inj d d' q q' m m' ?_ ?_
                              · simp only [T.get_set]
                                split at hq
                                · rename_i e; rw [if_pos e]; exact hq
                                · rename_i e; rw [if_neg e]
                                  split at hq
                                  · cases hq
                                  · exact hq
                              · simp only [T.get_set]
                                split at hq'
                                · rename_i e; rw [if_pos e]; exact hq'
                                · rename_i e; rw [if_neg e]
                                  split at hq'
                                  · cases hq'
                                  · exact hq'
                            bound := hst.cons.bound
                            low := hst.cons.low
                            glob := hst.cons.glob
                            sym := hst.cons.sym }
                          frame := hst.frame
                          size := hst.size
                          img := fun d q m hq hm => by
                            simp only [T.get_set, T.get_del] at hq
                            refine hst.img d q m ?_ hm
                            simp only [T.get_set]
                            split at hq
                            · rename_i e; rw [if_pos e]; exact hq
                            · rename_i e; rw [if_neg e]
                              split at hq
                              · cases hq
                              · exact hq
                          fresh := hst.fresh
                          next := hst.next
                          os := hst.os
                          tape := hst.tape
                          output := hst.output }
                · cases h
              · cases h
          · cases h
        · cases h
      · cases h
    · cases h
  · cases h

end Go.Proofs.YtiamenedboifeabGreatDoor.Rx

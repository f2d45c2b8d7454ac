/- A reflective evaluator of the model's code, part H: operations that make memory. -/
import Derived.Test.YtiamenedboifeabGreatDoorRxG
import Derived.IntWalk
namespace Go.Proofs.YtiamenedboifeabGreatDoor.Rx
open Go.Instr

/-- What an operation that makes one block does: the block, and the value by the block's name. -/
structure MadeR (P : Program) (ρ : Place) (blk : AB) (f : Nat → AV) (w : World) (r : Result Next) : Prop where
  made : ∃ x w' ext, r = .ok (.value x) w' ∧ w'.heap.size = w.heap.size + 1 ∧ (∀ k, k < w.heap.size → w'.heap[k]? = w.heap[k]?) ∧ w'.os = w.os ∧ w'.tape = w.tape ∧ w'.output = w.output ∧
    ∀ ρ' id, ρ.le ρ' → ρ' id = some ⟨w.heap.size, 0, ext, undef⟩ → BR ρ' ⟨w.heap.size, 0, ext, undef⟩ blk w' ∧ VR ρ' (f id) x

theorem alloc_old (w : World) (o : Obj) : (w.alloc o).heap.size = w.heap.size + 1 ∧ ∀ k, k < w.heap.size → (w.alloc o).heap[k]? = w.heap[k]? :=
  ⟨by simp, fun k hk => RowKit.Below.heap_alloc w o k hk⟩

theorem alloc_new (w : World) (o : Obj) : (w.alloc o).heap[w.heap.size]? = some o := by
  show (w.heap.push o)[w.heap.size]? = some o
  simp

/-- A new row whose cells are known. -/
theorem rowBR {ρ : Place} {cells : List AV} {arr : Array Value} (h : VRs ρ cells arr.toList) (e : TypeId) (w : World) {n : Nat} (hn : cells.length = n) :
    BR ρ ⟨w.heap.size, 0, n, undef⟩ (.cells e n (T.ofList cells) false 0 false) (w.alloc (.cells arr e)) := by
  have hlen := h.length
  simp only [Array.length_toList] at hlen
  refine ⟨arr, 0, 0, alloc_new w _, rfl, by simp, by simp only []; omega, fun _ => by omega, fun i hi => ?_, fun o _ _ => by omega, fun _ => by omega⟩
  obtain ⟨a, ha⟩ : ∃ a, cells[i]? = some a := ⟨_, List.getElem?_eq_getElem (by omega)⟩
  obtain ⟨v, hv, hr⟩ := h.get i a ha
  exact ⟨v, by simpa using hv, by simpa only [cellOf, T.get_ofList, ha] using hr⟩

def allocA (P : Program) (t : TypeId) : Option (AB × (Nat → AV)) :=
  match P.info? t with
  | some i => match i.zero with
    | some z => some (.cells t z.cells.size (T.ofList (z.cells.toList.map .lit)) false 0 false, fun id => .ptr id 0)
    | none => none
  | none => none

theorem ptrVR {ρ : Place} {id : Nat} {l : Loc} (h : ρ id = some l) (h0 : l.off = 0) : VR ρ (.ptr id 0) (.pointer (some ⟨l.blk, 0, none⟩)) := by
  simp only [VR]
  exact ⟨l, h, by rw [h0]⟩

theorem allocA_ok {P : Program} {ρ : Place} {t : TypeId} {blk : AB} {f : Nat → AV} (h : allocA P t = some (blk, f)) (w : World) :
    MadeR P ρ blk f w ((do pure (.value (← Instr.alloc t true (.tuple #[]))) : Sem Next).run P w) := by
  unfold allocA at h
  split at h
  · rename_i i hi
    split at h
    · rename_i z hz
      simp only [Option.some.injEq, Prod.mk.injEq] at h
      obtain ⟨rfl, rfl⟩ := h
      refine ⟨.pointer (some ⟨w.heap.size, 0, none⟩), w.alloc (.cells z.cells t), z.cells.size, by simp [Instr.alloc, run_zeroValue hi hz, newVar, newRow], (alloc_old w _).1, (alloc_old w _).2, rfl, rfl, rfl, fun ρ' id _ hid => ⟨?_, ptrVR hid rfl⟩⟩
      exact rowBR (VRs.lits _) t w (by simp)
    · cases h
  · cases h

def boxA (t : TypeId) (v : AV) : Option (AB × (Nat → AV)) :=
  match v.cells? with
  | some l => some (.cells t l.length (T.ofList l) false 0 false, fun id => .ptr id 0)
  | none => none

theorem boxA_ok {P : Program} {ρ : Place} {t : TypeId} {v : AV} {x : Value} {blk : AB} {f : Nat → AV} (hv : VR ρ v x) (h : boxA t v = some (blk, f)) (w : World) :
    MadeR P ρ blk f w ((do pure (.value (← Instr.box t x)) : Sem Next).run P w) := by
  unfold boxA at h
  split at h
  · rename_i l hl
    simp only [Option.some.injEq, Prod.mk.injEq] at h
    obtain ⟨rfl, rfl⟩ := h
    have hc := hv.cells hl
    refine ⟨.pointer (some ⟨w.heap.size, 0, none⟩), w.alloc (.cells x.cells t), l.length, by simp [Instr.box, newVar, newRow], (alloc_old w _).1, (alloc_old w _).2, rfl, rfl, rfl, fun ρ' id hle hid => ⟨?_, ptrVR hid rfl⟩⟩
    exact rowBR (hc.mono hle) t w rfl
  · cases h

def zerosA (z : Array Value) (n : Nat) : List AV := (List.range n).map fun i => .lit z[i % z.size]!

theorem zerosA_ok {ρ : Place} (z : Array Value) (n : Nat) : VRs ρ (zerosA z n) ((Array.range n).map (z[· % z.size]!)).toList := by
  refine VRs.of_get (by simp [zerosA]) fun i x v hx hv => ?_
  by_cases hi : i < n
  · simp [zerosA, hi] at hx hv
    subst hx hv
    simp [VR]
  · simp [zerosA, hi] at hx

def buildSliceA (P : Program) (t : TypeId) (n : Nat) (parts : List (Nat × AV)) : Option (AB × (Nat → AV)) :=
  match P.underlying t with
  | some (.slice e) => match P.info? e with
    | some i => match i.zero with
      | some z => cond (Nat.ble (n * i.size) 16777216)
        (match fillA (fun k => some (k * i.size, i.size)) (zerosA z.cells (n * i.size)) parts with
         | some cs => some (.cells e cs.length (T.ofList cs) false 0 false, fun id => .slice id 0 n (some n) i.size)
         | none => none) none
      | none => none
    | none => none
  | _ => none

theorem sliceVR {ρ : Place} {id n c esz : Nat} {l : Loc} (h : ρ id = some l) (h0 : l.off = 0) : VR ρ (.slice id 0 n (some c) esz) (.slice (some ⟨l.blk, 0, none⟩) n c) := by
  simp only [VR]
  exact ⟨l, c, h, by rw [h0], rfl⟩

theorem buildSliceA_ok {P : Program} {ρ : Place} {t : TypeId} {n : Nat} {parts : List (Nat × AV)} {vals : Array (Nat × Value)} {blk : AB} {f : Nat → AV}
    (h1 : parts.map (·.1) = vals.toList.map (·.1)) (h2 : VRs ρ (parts.map (·.2)) (vals.toList.map (·.2))) (h : buildSliceA P t n parts = some (blk, f)) (w : World) :
    MadeR P ρ blk f w ((do pure (.value (← Instr.buildSlice t n vals)) : Sem Next).run P w) := by
  unfold buildSliceA at h
  split at h
  · rename_i e hu
    split at h
    · rename_i i hi
      split at h
      · rename_i z hz
        cases hb : Nat.ble (n * i.size) 16777216 with
        | false => rw [hb] at h; simp at h
        | true =>
          rw [hb] at h
          simp only [cond_true] at h
          have hb' : n * i.size ≤ 16777216 := by simpa [Nat.ble_eq] using hb
          split at h
          · rename_i cs hcs
            simp only [Option.some.injEq, Prod.mk.injEq] at h
            obtain ⟨rfl, rfl⟩ := h
            have hbig : ¬ (n * i.size > 2 ^ 24) := by omega
            have key : ∃ ys, Instr.fill (fun k => some (k * i.size, i.size)) ((Array.range (n * i.size)).map ((if n * i.size = 0 then #[] else z.cells)[· % (if n * i.size = 0 then #[] else z.cells).size]!)) vals.toList = some ys ∧ VRs ρ cs ys.toList := by
              by_cases h0 : n * i.size = 0
              · refine fillA_ok parts vals.toList (zerosA z.cells (n * i.size)) _ cs ?_ h1 h2 hcs
                rw [h0]
                simp [zerosA, VRs]
              · simp only [h0, if_false]
                exact fillA_ok parts vals.toList _ _ cs (zerosA_ok _ _) h1 h2 hcs
            obtain ⟨ys, hy, hyr⟩ := key
            refine ⟨.slice (some ⟨w.heap.size, 0, none⟩) n n, w.alloc (.cells ys e), cs.length, ?_, (alloc_old w _).1, (alloc_old w _).2, rfl, rfl, rfl, fun ρ' id hle hid => ⟨rowBR (hyr.mono hle) e w rfl, sliceVR hid rfl⟩⟩
            by_cases h0 : n * i.size = 0
            · simp only [h0, if_true] at hy
              have hbig0 : ¬ ((0 : Nat) > 2 ^ 24) := by omega
              simp only [Instr.buildSlice, Sem.run_bind, run_underlying hu, Result.andThen_ok, run_sizeOf hi, h0, hbig0, if_false, if_true, Sem.run_pure, hy, newRow, newObj, Sem.run]
              rfl
            · simp only [h0, if_false] at hy
              simp only [Instr.buildSlice, Sem.run_bind, run_underlying hu, Result.andThen_ok, run_sizeOf hi, hbig, h0, if_false, Sem.run_pure, run_zeroValue hi hz, hy, newRow, newObj, Sem.run]
              rfl
          · cases h
      · cases h
    · cases h
  · cases h

def natOf : AV → Option Nat
  | .lit (.int .i64 (.ofNat n)) => some n
  | _ => none

def makeSliceA (P : Program) (t : TypeId) (len cap : AV) : Option (AB × (Nat → AV)) :=
  match P.underlying t with
  | some (.slice e) => match P.info? e with
    | some i => match i.zero with
      | some z => match natOf len with
        | some l => match natOf cap with
          | some c => cond (Nat.ble l c && Nat.ble c 1073741824 && Nat.ble i.bytes 1024)
            (some (.cells e (zerosA z.cells (c * i.size)).length (T.ofList (zerosA z.cells (c * i.size))) false 0 false, fun id => .slice id 0 l (some c) i.size)) none
          | none => none
        | none => none
      | none => none
    | none => none
  | _ => none

theorem natOf_ok {ρ : Place} {a : AV} {n : Nat} {v : Value} (hv : VR ρ a v) (h : natOf a = some n) : v = .int .i64 n := by
  unfold natOf at h
  split at h
  · simp only [Option.some.injEq] at h
    subst h
    simpa [VR] using hv
  · cases h

theorem wrap_small {n : Nat} (h : n ≤ 1073741824) : IntKind.i64.wrap (n : Int) = n := by
  exact IntWalk.i64_in _ (by omega)

theorem makeSliceA_ok {P : Program} {ρ : Place} {t : TypeId} {len cap : AV} {x y : Value} {blk : AB} {f : Nat → AV} (hx : VR ρ len x) (hy : VR ρ cap y) (h : makeSliceA P t len cap = some (blk, f)) (w : World) :
    MadeR P ρ blk f w ((do pure (.value (← Instr.makeSlice t x y)) : Sem Next).run P w) := by
  unfold makeSliceA at h
  split at h
  · rename_i e hu
    split at h
    · rename_i i hi
      split at h
      · rename_i z hz
        split at h
        · rename_i l hl
          split at h
          · rename_i c hc
            cases hb : (Nat.ble l c && Nat.ble c 1073741824 && Nat.ble i.bytes 1024) with
            | false => rw [hb] at h; simp at h
            | true =>
              rw [hb] at h
              simp only [cond_true, Option.some.injEq, Prod.mk.injEq] at h
              obtain ⟨rfl, rfl⟩ := h
              simp only [Bool.and_eq_true, Nat.ble_eq] at hb
              obtain ⟨⟨b1, b2⟩, b3⟩ := hb
              have ex := natOf_ok hx hl
              have ey := natOf_ok hy hc
              subst ex ey
              have w1 := wrap_small (n := l) (by omega)
              have w2 := wrap_small (n := c) (by omega)
              have hm : (i.bytes : Int) * (c : Int) ≤ 1099511627776 := by
                have : i.bytes * c ≤ 1024 * 1073741824 := Nat.mul_le_mul b3 b2
                omega
              have hno : (decide ((c : Int) < 0) || decide ((i.bytes : Int) * (c : Int) > 2 ^ 48) || decide ((l : Int) < 0) || decide ((l : Int) > (c : Int))) = false := by
                have e1 : ¬ ((c : Int) < 0) := by omega
                have e2 : ¬ ((i.bytes : Int) * (c : Int) > 2 ^ 48) := by omega
                have e3 : ¬ ((l : Int) < 0) := by omega
                have e4 : ¬ ((l : Int) > (c : Int)) := by omega
                simp [e1, e3, e4]
                omega
              have hroom : ¬ (c * i.bytes > roomBytes) := by
                have : c * i.bytes ≤ 1073741824 * 1024 := Nat.mul_le_mul b2 b3
                unfold roomBytes
                omega
              refine ⟨.slice (some ⟨w.heap.size, 0, none⟩) l c, w.alloc (.cells ((Array.range (c * i.size)).map ((if c * i.size = 0 then #[] else z.cells)[· % (if c * i.size = 0 then #[] else z.cells).size]!)) e), (zerosA z.cells (c * i.size)).length, ?_, (alloc_old w _).1, (alloc_old w _).2, rfl, rfl, rfl, fun ρ' id hle hid => ⟨?_, sliceVR hid rfl⟩⟩
              · have hno' := hno
                simp only [Instr.makeSlice, Sem.run_bind, run_underlying hu, Result.andThen_ok, asInt, asIntOf, Sem.run_pure, run_typeInfo' hi, w1, w2]
                rw [if_neg (by simpa using hno)]
                simp only [Sem.run_bind, Sem.run_pure, Result.andThen_ok, askRoom, Int.toNat_natCast, if_neg hroom, run_sizeOf hi]
                by_cases h0 : c * i.size = 0
                · simp [h0, newRow]
                · simp [h0, newRow, run_zeroValue hi hz]
              · refine rowBR ?_ e w rfl
                by_cases h0 : c * i.size = 0
                · rw [h0]; simp [zerosA, VRs]
                · simp only [h0, if_false]
                  exact zerosA_ok _ _
          · cases h
        · cases h
      · cases h
    · cases h
  · cases h

def makeMapA (P : Program) (t : TypeId) (reserve : Option AV) : Option (AB × (Nat → AV)) :=
  match reserve with
  | none => some (.map [] 0, fun id => .mapp id)
  | some (.lit (.int _ _)) => match P.underlying t with
    | some (.map _ _) => some (.map [] 0, fun id => .mapp id)
    | _ => none
  | _ => none

theorem mapBR (ρ : Place) (w : World) : BR ρ ⟨w.heap.size, 0, 0, undef⟩ (.map [] 0) (w.alloc (.map #[] 0)) := ⟨rfl, #[], alloc_new w _, by simp [ER]⟩

theorem makeMapA_ok {P : Program} {ρ : Place} {t : TypeId} {r : Option AV} {x : Option Value} {blk : AB} {f : Nat → AV}
    (hr : match r, x with | none, none => True | some a, some v => VR ρ a v | _, _ => False) (h : makeMapA P t r = some (blk, f)) (w : World) :
    MadeR P ρ blk f w ((do pure (.value (← Instr.makeMap t x)) : Sem Next).run P w) := by
  have fin : ∀ ρ' : Place, ∀ id : Nat, ρ' id = some ⟨w.heap.size, 0, 0, undef⟩ → BR ρ' ⟨w.heap.size, 0, 0, undef⟩ (.map [] 0) (w.alloc (.map #[] 0)) ∧ VR ρ' (.mapp id) (.map (some w.heap.size)) := fun ρ' id hid =>
    ⟨mapBR ρ' w, by simp only [VR]; exact ⟨_, hid, rfl⟩⟩
  unfold makeMapA at h
  split at h
  · simp only [Option.some.injEq, Prod.mk.injEq] at h
    obtain ⟨rfl, rfl⟩ := h
    cases x with
    | some v => exact hr.elim
    | none => exact ⟨.map (some w.heap.size), w.alloc (.map #[] 0), 0, by simp [Instr.makeMap], (alloc_old w _).1, (alloc_old w _).2, rfl, rfl, rfl, fun ρ' id _ hid => fin ρ' id hid⟩
  · rename_i k n
    split at h
    · rename_i a b hu
      simp only [Option.some.injEq, Prod.mk.injEq] at h
      obtain ⟨rfl, rfl⟩ := h
      cases x with
      | none => exact hr.elim
      | some v =>
        simp only [VR] at hr
        subst hr
        exact ⟨.map (some w.heap.size), w.alloc (.map #[] 0), 0, by simp [Instr.makeMap, run_underlying hu, asInt, asIntOf], (alloc_old w _).1, (alloc_old w _).2, rfl, rfl, rfl, fun ρ' id _ hid => fin ρ' id hid⟩
    · cases h
  · cases h

def rangeA (P : Program) (t : TypeId) (x : AV) : Option (AB × (Nat → AV)) :=
  match P.underlying t with
  | some .string => match x with
    | .lit (.string s) => some (.siter s 0, fun id => .ptr id 0)
    | _ => none
  | _ => none

theorem rangeA_ok {P : Program} {ρ : Place} {t : TypeId} {x : AV} {y : Value} {blk : AB} {f : Nat → AV} (hx : VR ρ x y) (h : rangeA P t x = some (blk, f)) (w : World) :
    MadeR P ρ blk f w ((do pure (.value (← Instr.range t y)) : Sem Next).run P w) := by
  unfold rangeA at h
  split at h
  · rename_i hu
    split at h
    · rename_i s
      simp only [Option.some.injEq, Prod.mk.injEq] at h
      obtain ⟨rfl, rfl⟩ := h
      simp only [VR] at hx
      subst hx
      exact ⟨.pointer (some ⟨w.heap.size, 0, none⟩), w.alloc (.stringIter s 0), 0, by simp [Instr.range, run_underlying hu], (alloc_old w _).1, (alloc_old w _).2, rfl, rfl, rfl, fun ρ' id _ hid => ⟨⟨rfl, alloc_new w _⟩, ptrVR hid rfl⟩⟩
    · cases h
  · cases h

/-- A row of bytes whose capacity is drawn. -/
def bytesRowA (e : TypeId) (s : List UInt8) : AB × (Nat → AV) :=
  (.cells e s.length (T.ofList (bytesA s)) true 0 true, fun id => .slice id 0 s.length none 1)

theorem freeze_here {w : World} {b o : Nat} {arr : Array Value} {e : TypeId} (h : w.heap[b]? = some (.cells arr e (0, 0))) {n : Nat} (hn : n ≠ 0) :
    (w.freeze ⟨b, o, none⟩ n).heap[b]? = some (.cells arr e (o, o + n)) := by
  have hlt : b < w.heap.size := by
    rcases Nat.lt_or_ge b w.heap.size with k | k
    · exact k
    · rw [Array.getElem?_eq_none k] at h; cases h
  simp only [World.freeze, hn, if_false]
  rw [Array.getElem?_modify]
  simp [h]

theorem freeze_else {w : World} {a : Addr} {n k : Nat} (h : k ≠ a.block) : (w.freeze a n).heap[k]? = w.heap[k]? := by
  unfold World.freeze
  split
  · rfl
  · rw [Array.getElem?_modify, if_neg (fun e => h e.symm)]

theorem freeze_size (w : World) (a : Addr) (n : Nat) : (w.freeze a n).heap.size = w.heap.size := by
  unfold World.freeze
  split
  · rfl
  · simp

theorem freeze_rest (w : World) (a : Addr) (n : Nat) : (w.freeze a n).os = w.os ∧ (w.freeze a n).tape = w.tape ∧ (w.freeze a n).output = w.output := by
  unfold World.freeze
  split <;> exact ⟨rfl, rfl, rfl⟩

theorem run_choose_cap {P : Program} (need old : Nat) (e : TypeId) (w : World) : (choose (.appendCap need old e)).run P w = .ok (grownCap w need old e) w.drew := by
  simp [choose, Sem.run, Question.forced, grownCap]

theorem run_newRow {P : Program} (e : TypeId) (c : Array Value) (w : World) : (newRow e c).run P w = .ok ⟨w.heap.size, 0, none⟩ (w.alloc (.cells c e)) := rfl

theorem run_markStringish {P : Program} {a : Addr} {w : World} {e : TypeId} {n : Nat} (h : w.shape? a.block = some (e, n)) :
    (markStringish a).run P w = .ok () (w.freeze { block := a.block, off := n } 1) := by
  simp [markStringish, h, freeze, Sem.run]

theorem bytesA_get : ∀ (l : List UInt8) (i : Nat), (bytesA l)[i]? = (l[i]?).map fun b => AV.lit (.int .u8 b.toNat)
  | [], i => by simp [bytesA]
  | b :: bs, 0 => by simp [bytesA]
  | b :: bs, i + 1 => by simpa [bytesA] using bytesA_get bs i

def bytesArr (s : ByteArray) (cap : Nat) : Array Value := (s.data.map fun b => Value.int .u8 b.toNat) ++ Array.replicate (cap - s.size) (.int .u8 0)

theorem bytesArr_size (s : ByteArray) (cap : Nat) (h : s.size ≤ cap) : (bytesArr s cap).size = cap := by
  simp only [bytesArr, Array.size_append, Array.size_map, Array.size_replicate]
  have : s.data.size = s.size := rfl
  omega

theorem stringBytes_ok {P : Program} {ρ : Place} {e : TypeId} (s : ByteArray) (w : World) :
    MadeR P ρ (bytesRowA e s.data.toList).1 (bytesRowA e s.data.toList).2 w ((do pure (.value (← Conv.stringToBytes e s)) : Sem Next).run P w) := by
  have hsz : s.data.toList.length = s.size := by rw [Array.length_toList]; rfl
  have hcap : s.size ≤ grownCap w s.size 0 e := grownCap_ge w s.size 0 e
  have harr := bytesArr_size s _ hcap
  generalize hg : grownCap w s.size 0 e = cap at hcap harr
  have hw1 : (w.drew.alloc (.cells (bytesArr s cap) e)).heap[w.heap.size]? = some (.cells (bytesArr s cap) e (0, 0)) := alloc_new w.drew _
  have hshape : (w.drew.alloc (.cells (bytesArr s cap) e)).shape? w.heap.size = some (e, cap) := by
    simp only [World.shape?, hw1, harr]
  refine ⟨.slice (some ⟨w.heap.size, 0, none⟩) s.size cap, (w.drew.alloc (.cells (bytesArr s cap) e)).freeze ⟨w.heap.size, cap, none⟩ 1, cap, ?_, ?_, fun k hk => ?_, (freeze_rest _ _ _).1, (freeze_rest _ _ _).2.1, (freeze_rest _ _ _).2.2, fun ρ' id _ hid => ⟨?_, ?_⟩⟩
  · have hrow : (newRow e (s.data.map (fun b => Value.int .u8 (b.toNat : Int)) ++ Array.replicate (cap - s.size) (.int .u8 0))).run P w.drew = .ok ⟨w.heap.size, 0, none⟩ (w.drew.alloc (.cells (bytesArr s cap) e)) := rfl
    have hm := run_markStringish (P := P) (a := ⟨w.heap.size, 0, none⟩) hshape
    simp only [Conv.stringToBytes, Sem.run_bind, run_choose_cap, Result.andThen_ok, hg, hrow, hm, Sem.run_pure]
  · rw [freeze_size]; exact (alloc_old w.drew _).1
  · rw [freeze_else (by simp; omega)]; exact (alloc_old w.drew _).2 k hk
  · refine ⟨bytesArr s cap, cap, cap + 1, freeze_here hw1 (by omega), rfl, by simp only []; omega, by simp only []; omega, (fun h => by cases h), fun i hi => ?_, fun o _ ho => by simp only [] at ho; omega, fun h => by cases h⟩
    have hi' : i < s.data.size := by simpa using hi
    have hs : s.data.size = s.size := rfl
    refine ⟨.int .u8 (s.data[i]).toNat, ?_, ?_⟩
    · simp only [bytesArr, Nat.zero_add]
      rw [Array.getElem?_append_left (by simpa using hi')]
      rw [Array.getElem?_map, Array.getElem?_eq_getElem hi']
      rfl
    · simp only [cellOf, T.get_ofList, bytesA_get]
      rw [Array.getElem?_toList, Array.getElem?_eq_getElem hi']
      simp only [Option.map_some, VR]
  · simp only [bytesRowA, VR]
    exact ⟨_, cap, hid, by rw [hsz], by omega, by simp⟩

/-- A row of bytes of which nothing is known. -/
def noZeroA (P : Program) (t : TypeId) (n : Nat) : Option (AB × (Nat → AV)) :=
  match P.underlying t with
  | some (.slice e) => cond (Nat.ble n 1073741824) (some (.cells e n .leaf true 0 false, fun id => .slice id 0 n none 1)) none
  | _ => none

theorem digits_size : ∀ (n t : Nat) (acc : Array Value), (Extern.BytealgMakeNoZero.digits n t acc).size = acc.size + n
  | 0, t, acc => rfl
  | n + 1, t, acc => by
    simp only [Extern.BytealgMakeNoZero.digits]
    rw [digits_size n]
    simp; omega

theorem noZeroA_ok {P : Program} {ρ : Place} {t : TypeId} {n : Nat} {blk : AB} {f : Nat → AV} (h : noZeroA P t n = some (blk, f)) (w : World) :
    MadeR P ρ blk f w ((do pure (.value (← Extern.BytealgMakeNoZero.makeNoZero #[] #[t] #[.int .i64 n])) : Sem Next).run P w) := by
  unfold noZeroA at h
  split at h
  · rename_i e hu
    cases hb : Nat.ble n 1073741824 with
    | false => rw [hb] at h; simp at h
    | true =>
      rw [hb] at h
      simp only [cond_true, Option.some.injEq, Prod.mk.injEq] at h
      obtain ⟨rfl, rfl⟩ := h
      have hn : n ≤ 1073741824 := by simpa [Nat.ble_eq] using hb
      have hcap : n ≤ grownCap w n 0 e := grownCap_ge w n 0 e
      generalize hg : grownCap w n 0 e = cap at hcap
      obtain ⟨q, hq⟩ : ∃ q, q = (Question.extern "internal/bytealg.MakeNoZero.bytes" 0).cut (w.drew.tape w.drew.drawn (.extern "internal/bytealg.MakeNoZero.bytes" 0)) := ⟨_, rfl⟩
      have hsz := digits_size cap q #[]
      simp only [List.size_toArray, List.length_nil, Nat.zero_add] at hsz
      have hno : (decide ((n : Int) < 0) || decide ((n : Int) > 2 ^ 48)) = false := by
        have e1 : ¬ ((n : Int) < 0) := by omega
        have e2 : ¬ ((n : Int) > 2 ^ 48) := by omega
        rw [decide_eq_false e1, decide_eq_false e2]; rfl
      have hroom : ∀ w' : World, (askRoom cap).run P w' = .ok () w' := fun w' => by
        unfold askRoom
        split <;> rfl
      have hch : (choose (.extern "internal/bytealg.MakeNoZero.bytes" 0)).run P w.drew = .ok q w.drew.drew := by
        rw [hq]
        simp [choose, Sem.run, Question.forced]
        rfl
      refine ⟨.slice (some ⟨w.heap.size, 0, none⟩) n cap, w.drew.drew.alloc (.cells (Extern.BytealgMakeNoZero.digits cap q #[]) e), cap, ?_, (alloc_old w.drew.drew _).1, (alloc_old w.drew.drew _).2, rfl, rfl, rfl, fun ρ' id _ hid => ⟨?_, ?_⟩⟩
      · have hmk : Extern.BytealgMakeNoZero.makeNoZero #[] #[t] #[.int .i64 n] = (do
            let .slice elem ← underlying t | stuck "bytealg.MakeNoZero: slice type expected"
            if (n : Int) < 0 || (n : Int) > 2 ^ 48 then runtimePanic (.error "makeslice: len out of range")
            let cap ← choose (.appendCap (n : Int).toNat 0 elem)
            askRoom cap
            let bytes ← choose (.extern "internal/bytealg.MakeNoZero.bytes" 0)
            let a ← newRow elem (Extern.BytealgMakeNoZero.digits cap bytes #[])
            pure (.slice (some a) (n : Int).toNat cap)) := rfl
        rw [hmk]
        simp only [Sem.run_bind, run_underlying hu, Result.andThen_ok]
        rw [if_neg (by simpa using hno)]
        simp only [Sem.run_bind, Sem.run_pure, Result.andThen_ok, Int.toNat_natCast, run_choose_cap, hg, hroom, hch, run_newRow]
        rfl
      · refine ⟨_, 0, 0, alloc_new w.drew.drew _, rfl, by simp only []; omega, by simp only []; omega, (fun h => by cases h), fun i hi => ?_, fun o _ _ => by omega, fun _ => by omega⟩
        refine ⟨_, Array.getElem?_eq_getElem (by simp only []; omega), ?_⟩
        simp [cellOf, VR]
      · simp only [VR]
        exact ⟨_, cap, hid, rfl, hcap, by simp⟩
  · cases h

end Go.Proofs.YtiamenedboifeabGreatDoor.Rx

/- A reflective evaluator of the model's code, part F: more quiet operations. -/
import Derived.Test.YtiamenedboifeabGreatDoorRxD
import Derived.Laws.BytesString
import Derived.Laws.Append
import Derived.Lib.Builder
import Derived.Lib.UnsafeStr
namespace Go.Proofs.YtiamenedboifeabGreatDoor.Rx
open Go.Instr

/-! Composites. -/

def over (cs : List AV) (off : Nat) (l : List AV) : List AV := cs.take off ++ (l ++ cs.drop (off + l.length))

def fillA (place : Nat → Option (Nat × Nat)) (cells : List AV) : List (Nat × AV) → Option (List AV)
  | [] => some cells
  | (i, v) :: rest => match place i with
    | none => none
    | some (off, size) => match v.cells? with
      | none => none
      | some l => cond (Nat.beq l.length size && Nat.ble (off + l.length) cells.length) (fillA place (over cells off l) rest) none

theorem foldl_set (off : Nat) : ∀ (l : List Value) (k : Nat) (cs : Array Value), off + k + l.length ≤ cs.size →
    ((l.zipIdx k).foldl (fun cs (x : Value × Nat) => cs.setIfInBounds (off + x.2) x.1) cs).toList = cs.toList.take (off + k) ++ (l ++ cs.toList.drop (off + k + l.length))
  | [], k, cs, _ => by simp
  | v :: vs, k, cs, h => by
    simp only [List.length_cons] at h
    simp only [List.zipIdx_cons, List.foldl_cons]
    rw [foldl_set off vs (k + 1) _ (by simp; omega)]
    have hlt : off + k < cs.toList.length := by simp; omega
    simp only [Array.toList_setIfInBounds, List.length_cons]
    rw [show off + (k + 1) = off + k + 1 from by omega, List.take_add_one, List.take_set_of_le (by omega), List.drop_set_of_lt (by omega)]
    have : (cs.toList.set (off + k) v)[off + k]? = some v := by
      rw [List.getElem?_set_self hlt]
    rw [this]
    simp [Nat.add_comm, Nat.add_left_comm, Nat.add_assoc]

theorem fillA_ok {ρ : Place} {place : Nat → Option (Nat × Nat)} : ∀ (parts : List (Nat × AV)) (vals : List (Nat × Value)) (cells : List AV) (xs : Array Value) (r : List AV),
    VRs ρ cells xs.toList → parts.map (·.1) = vals.map (·.1) → VRs ρ (parts.map (·.2)) (vals.map (·.2)) → fillA place cells parts = some r →
    ∃ ys, Instr.fill place xs vals = some ys ∧ VRs ρ r ys.toList
  | [], vals, cells, xs, r, hx, h1, _, h => by
    simp only [fillA, Option.some.injEq] at h
    subst h
    have : vals = [] := by simpa using h1.symm
    subst this
    exact ⟨xs, rfl, hx⟩
  | (i, v) :: rest, vals, cells, xs, r, hx, h1, h2, h => by
    simp only [List.map_cons, VRs] at h1 h2
    obtain ⟨y, ys', h3, h4, h5⟩ := h2
    cases vals with
    | nil => simp at h1
    | cons u us =>
      obtain ⟨j, y'⟩ := u
      simp only [List.map_cons, List.cons.injEq] at h1 h3
      obtain ⟨rfl, h1⟩ := h1
      obtain ⟨rfl, rfl⟩ := h3
      simp only [fillA] at h
      split at h
      · cases h
      · rename_i off size hp
        split at h
        · cases h
        · rename_i l hl
          cases hb : (Nat.beq l.length size && Nat.ble (off + l.length) cells.length) with
          | false => rw [hb] at h; simp at h
          | true =>
            rw [hb] at h
            simp only [cond_true] at h
            simp only [Bool.and_eq_true, Nat.ble_eq] at hb
            have hsz : l.length = size := Nat.eq_of_beq_eq_true hb.1
            have hc := h4.cells hl
            have hlen := hc.length
            have hxl := hx.length
            simp only [Array.length_toList] at hlen hxl
            have hle : off + y'.cells.size ≤ xs.size := by omega
            have hstep : (y'.cells.zipIdx.foldl (fun cs (x : Value × Nat) => cs.setIfInBounds (off + x.2) x.1) xs).toList = xs.toList.take off ++ (y'.cells.toList ++ xs.toList.drop (off + y'.cells.size)) := by
              have := foldl_set off y'.cells.toList 0 xs (by simpa using hle)
              rw [← Array.foldl_toList, Array.toList_zipIdx]
              simpa using this
            have hover : VRs ρ (over cells off l) (y'.cells.zipIdx.foldl (fun cs (x : Value × Nat) => cs.setIfInBounds (off + x.2) x.1) xs).toList := by
              rw [hstep]
              unfold over
              exact (hx.take off).append (hc.append (by rw [hlen]; exact hx.drop _))
            obtain ⟨zs, hz, hzr⟩ := fillA_ok rest us _ _ r hover h1 h5 h
            refine ⟨zs, ?_, hzr⟩
            have e1 : ¬ (y'.cells.size ≠ size) := by omega
            have e2 : ¬ (off + y'.cells.size > xs.size) := by omega
            simp only [Instr.fill, hp]
            rw [if_neg (by simp [e1]; omega)]
            exact hz

def buildA (P : Program) (t : TypeId) (parts : List (Nat × AV)) : Option AV :=
  match P.info? t with
  | some inf => match inf.zero with
    | some z => match P.underlying t with
      | some (.struct fields) => match pureRun P (fields.mapM fun f => do pure (f.offset, ← sizeOf f.type)) with
        | some places => match fillA (places[·]?) (z.cells.toList.map .lit) parts with
          | some cs => some (.agg cs)
          | none => none
        | none => none
      | some (.array _ e) => match P.info? e with
        | some ie => match fillA (fun i => some (i * ie.size, ie.size)) (z.cells.toList.map .lit) parts with
          | some cs => some (.agg cs)
          | none => none
        | none => none
      | _ => none
    | none => none
  | none => none

theorem buildA_ok {P : Program} {ρ : Place} {t : TypeId} {parts : List (Nat × AV)} {vals : Array (Nat × Value)} {v : AV}
    (h1 : parts.map (·.1) = vals.toList.map (·.1)) (h2 : VRs ρ (parts.map (·.2)) (vals.toList.map (·.2))) (h : buildA P t parts = some v) (w : World) :
    ∃ y, (Instr.build t vals).run P w = .ok y w ∧ VR ρ v y := by
  unfold buildA at h
  split at h
  · rename_i inf hinf
    split at h
    · rename_i z hz
      have hzr := run_zeroValue hinf hz w
      split at h
      · rename_i fields hu
        split at h
        · rename_i places hpl
          have hpr := pureRun_run _ _ hpl w
          split at h
          · rename_i cs hcs
            simp only [Option.some.injEq] at h
            subst h
            obtain ⟨ys, hy, hyr⟩ := fillA_ok parts vals.toList _ z.cells cs (VRs.lits _) h1 h2 hcs
            refine ⟨.agg ys, ?_, ?_⟩
            · simp only [Instr.build, Sem.run_bind, hzr, Result.andThen_ok, run_underlying hu, hpr, hy, Sem.run_pure]
            · simp only [VR]; exact ⟨ys, rfl, hyr⟩
          · cases h
        · cases h
      · rename_i m e hu
        split at h
        · rename_i ie hie
          split at h
          · rename_i cs hcs
            simp only [Option.some.injEq] at h
            subst h
            obtain ⟨ys, hy, hyr⟩ := fillA_ok parts vals.toList _ z.cells cs (VRs.lits _) h1 h2 hcs
            refine ⟨.agg ys, ?_, ?_⟩
            · simp [Instr.build, hzr, run_underlying hu, run_sizeOf hie, hy]
            · simp only [VR]; exact ⟨ys, rfl, hyr⟩
          · cases h
        · cases h
      · cases h
    · cases h
  · cases h

/-! Type assertions. -/

def failA (P : Program) (asserted : TypeId) (commaOk : Bool) : Option AV :=
  match commaOk with
  | true => match P.info? asserted with
    | some i => match i.zero with
      | some z => some (.tuple [.lit z, .lit (.bool false)])
      | none => none
    | none => none
  | false => none

def holdA (commaOk : Bool) (x : AV) : AV :=
  match commaOk with
  | true => .tuple [x, .lit (.bool true)]
  | false => x

def typeAssertA (P : Program) (x : AV) (asserted : TypeId) (commaOk : Bool) : Option AV :=
  match x with
  | .iface t v => match P.underlying asserted with
    | some (.interface want) => match P.info? t with
      | some i => match missingMethod want i.methods with
        | none => some (holdA commaOk (.iface t v))
        | some _ => failA P asserted commaOk
      | none => none
    | some _ => cond (Nat.beq t asserted) (some (holdA commaOk v)) (failA P asserted commaOk)
    | none => none
  | _ => none

theorem VR.hold {ρ : Place} {x : AV} {y : Value} (h : VR ρ x y) (ok : Bool) : VR ρ (holdA ok x) (if ok then .tuple #[y, .bool true] else y) := by
  cases ok with
  | false => simpa [holdA] using h
  | true =>
    simp only [holdA, if_true, VR, VRs]
    exact ⟨_, rfl, y, [.bool true], rfl, h, .bool true, [], rfl, rfl, rfl⟩

theorem typeAssertA_ok {P : Program} {ρ : Place} {x v : AV} {y : Value} {xt asserted : TypeId} {ok : Bool} (hx : VR ρ x y) (h : typeAssertA P x asserted ok = some v) (w : World) :
    ∃ z, (Instr.typeAssert y xt asserted ok).run P w = .ok z w ∧ VR ρ v z := by
  have fail : failA P asserted ok = some v → ok = true ∧ ∃ i z, P.info? asserted = some i ∧ i.zero = some z ∧ VR ρ v (.tuple #[z, .bool false]) := by
    intro h
    unfold failA at h
    split at h
    · split at h
      · rename_i i hi
        split at h
        · rename_i z hz
          simp only [Option.some.injEq] at h
          subst h
          refine ⟨rfl, i, z, hi, hz, ?_⟩
          simp only [VR, VRs]
          exact ⟨_, rfl, z, [.bool false], rfl, rfl, .bool false, [], rfl, rfl, rfl⟩
        · cases h
      · cases h
    · cases h
  unfold typeAssertA at h
  split at h
  · rename_i t u
    have hx0 := hx
    simp only [VR] at hx
    obtain ⟨u', rfl, hu'⟩ := hx
    split at h
    · rename_i want hw
      split at h
      · rename_i i hi
        split at h
        · rename_i hm
          simp only [Option.some.injEq] at h
          subst h
          exact ⟨_, by simp [Instr.typeAssert, run_underlying hw, run_typeInfo' hi, hm], hx0.hold ok⟩
        · rename_i m hm
          obtain ⟨rfl, j, z, hj, hz, hv⟩ := fail h
          exact ⟨_, by simp [Instr.typeAssert, run_underlying hw, run_typeInfo' hi, hm, run_zeroValue hj hz], hv⟩
      · cases h
    · rename_i d hne hd
      cases hb : Nat.beq t asserted with
      | true =>
        rw [hb] at h
        simp only [cond_true, Option.some.injEq] at h
        subst h
        have : t = asserted := Nat.eq_of_beq_eq_true hb
        subst this
        refine ⟨_, ?_, hu'.hold ok⟩
        cases d <;> first | exact absurd rfl (hne _) | (simp [Instr.typeAssert, run_underlying hd]; done)
      | false =>
        rw [hb] at h
        simp only [cond_false] at h
        have : t ≠ asserted := fun e => by subst e; simp at hb
        obtain ⟨rfl, j, z, hj, hz, hv⟩ := fail h
        refine ⟨_, ?_, hv⟩
        cases d <;> first | exact absurd rfl (hne _) | (simp [Instr.typeAssert, run_underlying hd, this, run_zeroValue hj hz]; done)
    · cases h
  · cases h

/-! Comparisons. -/

def eqA (P : Program) (t : TypeId) (x y : AV) : Option Bool :=
  match x, y with
  | .ptr _ _, .lit (.pointer none) => match P.underlying t with
    | some (.pointer _) => some false
    | _ => none
  | .lit (.pointer none), .ptr _ _ => match P.underlying t with
    | some (.pointer _) => some false
    | _ => none
  | .ptr b o, .ptr b' o' => match P.underlying t with
    | some (.pointer e) => match P.info? e with
      | some i => match i.size with
        | 0 => none
        | _ + 1 => cond (Nat.beq b b') (some (Nat.beq o o')) none
      | none => none
    | _ => none
  | .slice .., .lit (.slice none _ _) => match P.underlying t with
    | some (.slice _) => some false
    | _ => none
  | .eslice, .lit (.slice none _ _) => match P.underlying t with
    | some (.slice _) => some false
    | _ => none
  | .mapp _, .lit (.map none) => match P.underlying t with
    | some (.map _ _) => some false
    | _ => none
  | .func .., .lit .nilFunc => match P.underlying t with
    | some (.func ..) => some false
    | _ => none
  | .iface _ _, .lit .nilIface => match P.underlying t with
    | some (.interface _) => some false
    | _ => none
  | .lit .nilIface, .iface _ _ => match P.underlying t with
    | some (.interface _) => some false
    | _ => none
  | .iface a _, .lit (.iface b _) => match P.underlying t with
    | some (.interface _) => cond (Nat.beq a b) none (some false)
    | _ => none
  | .lit (.iface a _), .iface b _ => match P.underlying t with
    | some (.interface _) => cond (Nat.beq a b) none (some false)
    | _ => none
  | .iface a _, .iface b _ => match P.underlying t with
    | some (.interface _) => cond (Nat.beq a b) none (some false)
    | _ => none
  | _, _ => none

/-- What both forms of the comparison come to. -/
theorem eq_forms {P : Program} {t : TypeId} {u v : Value} {x y : Operand} {b : Bool} {w : World}
    (h : ∀ d, (Op.equalIn (d + 1) t u v).run P w = .ok b w) (hb : binOp .eql t u v = (do pure (.bool (← Op.equal t u v))) ∧ binOp .neq t u v = (do pure (.bool (!(← Op.equal t u v)))))
    (hg : ∀ op, eqGuard op t x y u v = pure ()) :
    ((do eqGuard .eql t x y u v; binOp .eql t u v) : Sem Value).run P w = .ok (.bool b) w ∧ ((do eqGuard .neq t x y u v; binOp .neq t u v) : Sem Value).run P w = .ok (.bool !b) w := by
  have he : (Op.equal t u v).run P w = .ok b w := h 9999
  rw [hg, hg, hb.1, hb.2]
  constructor
  · simp only [Sem.run_bind, Sem.run_pure, Result.andThen_ok, he]
  · simp only [Sem.run_bind, Sem.run_pure, Result.andThen_ok, he]

theorem eqA_ok {P : Program} {ρ : Place} {t : TypeId} {x y : AV} {u v : Value} {p q : Operand} {b : Bool} (hx : VR ρ x u) (hy : VR ρ y v) (h : eqA P t x y = some b) (w : World) :
    ((do eqGuard .eql t p q u v; binOp .eql t u v) : Sem Value).run P w = .ok (.bool b) w ∧ ((do eqGuard .neq t p q u v; binOp .neq t u v) : Sem Value).run P w = .ok (.bool !b) w := by
  unfold eqA at h
  split at h
  · split at h
    · rename_i e hu
      simp only [Option.some.injEq] at h
      subst h
      simp only [VR] at hx hy
      obtain ⟨l, hl, rfl⟩ := hx
      subst hy
      exact eq_forms (fun d => by simp [Op.equalIn, run_underlying hu]) ⟨rfl, rfl⟩ (fun op => eqGuard_at_pointer ..)
    · cases h
  · split at h
    · rename_i e hu
      simp only [Option.some.injEq] at h
      subst h
      simp only [VR] at hx hy
      obtain ⟨l, hl, rfl⟩ := hy
      subst hx
      exact eq_forms (fun d => by simp [Op.equalIn, run_underlying hu]) ⟨rfl, rfl⟩ (fun op => eqGuard_at_pointer ..)
    · cases h
  · rename_i b1 o1 b2 o2
    split at h
    · rename_i e hu
      split at h
      · rename_i i hi
        split at h
        · cases h
        · rename_i n hn
          cases hbb : Nat.beq b1 b2 with
          | false => rw [hbb] at h; simp at h
          | true =>
            rw [hbb] at h
            simp only [cond_true, Option.some.injEq] at h
            subst h
            have : b1 = b2 := Nat.eq_of_beq_eq_true hbb
            subst this
            simp only [VR] at hx hy
            obtain ⟨l, hl, rfl⟩ := hx
            obtain ⟨l', hl', rfl⟩ := hy
            rw [hl, Option.some.injEq] at hl'
            subst hl'
            have hsame : (sameAddr ⟨l.blk, l.off + o1, none⟩ ⟨l.blk, l.off + o2, none⟩).run P w = .ok (Nat.beq o1 o2) w := by
              simp only [sameAddr, beq_self_eq_true, if_true]
              have : ((⟨l.blk, l.off + o1, none⟩ : Addr) == ⟨l.blk, l.off + o2, none⟩) = Nat.beq o1 o2 := by
                cases ho : Nat.beq o1 o2 with
                | true => have := Nat.eq_of_beq_eq_true ho; subst this; simp
                | false =>
                  have hne : o1 ≠ o2 := fun e => by subst e; simp at ho
                  simp [hne]
              rw [this]; rfl
            exact eq_forms (fun d => by simp [Op.equalIn, run_underlying hu, run_sizeOf hi, hn, hsame]) ⟨rfl, rfl⟩ (fun op => eqGuard_at_pointer ..)
      · cases h
    · cases h
  · split at h
    · rename_i e hu
      simp only [Option.some.injEq] at h
      subst h
      simp only [VR] at hx hy
      obtain ⟨l, c, hl, rfl, _⟩ := hx
      subst hy
      exact eq_forms (fun d => by simp [Op.equalIn, run_underlying hu]) ⟨rfl, rfl⟩ (fun op => eqGuard_at_slice ..)
    · cases h
  · split at h
    · rename_i e hu
      simp only [Option.some.injEq] at h
      subst h
      simp only [VR] at hx hy
      obtain ⟨l, c, rfl⟩ := hx
      subst hy
      exact eq_forms (fun d => by simp [Op.equalIn, run_underlying hu]) ⟨rfl, rfl⟩ (fun op => eqGuard_at_slice ..)
    · cases h
  · split at h
    · rename_i e1 e2 hu
      simp only [Option.some.injEq] at h
      subst h
      simp only [VR] at hx hy
      obtain ⟨l, hl, rfl⟩ := hx
      subst hy
      exact eq_forms (fun d => by simp [Op.equalIn, run_underlying hu]) ⟨rfl, rfl⟩ (fun op => eqGuard_at_map ..)
    · cases h
  · split at h
    · rename_i e1 e2 e3 hu
      simp only [Option.some.injEq] at h
      subst h
      simp only [VR] at hx hy
      obtain ⟨l, c, rfl, _⟩ := hx
      subst hy
      exact eq_forms (fun d => by simp [Op.equalIn, run_underlying hu]) ⟨rfl, rfl⟩ (fun op => eqGuard_at_func ..)
    · cases h
  · split at h
    · rename_i e hu
      simp only [Option.some.injEq] at h
      subst h
      simp only [VR] at hx hy
      obtain ⟨l, rfl, _⟩ := hx
      subst hy
      exact eq_forms (fun d => by simp [Op.equalIn, run_underlying hu]) ⟨rfl, rfl⟩ (fun op => eqGuard_at_iface ..)
    · cases h
  · split at h
    · rename_i e hu
      simp only [Option.some.injEq] at h
      subst h
      simp only [VR] at hx hy
      obtain ⟨l, rfl, _⟩ := hy
      subst hx
      exact eq_forms (fun d => by simp [Op.equalIn, run_underlying hu]) ⟨rfl, rfl⟩ (fun op => eqGuard_nil_iface ..)
    · cases h
  · rename_i a _ c _
    split at h
    · rename_i e hu
      cases hbb : Nat.beq a c with
      | true => rw [hbb] at h; simp at h
      | false =>
        rw [hbb] at h
        simp only [cond_false, Option.some.injEq] at h
        subst h
        have hne : a ≠ c := fun e => by subst e; simp at hbb
        simp only [VR] at hx hy
        obtain ⟨l, rfl, _⟩ := hx
        subst hy
        exact eq_forms (fun d => by simp [Op.equalIn, run_underlying hu, hne]) ⟨rfl, rfl⟩ (fun op => eqGuard_at_iface ..)
    · cases h
  · rename_i a _ c _
    split at h
    · rename_i e hu
      cases hbb : Nat.beq a c with
      | true => rw [hbb] at h; simp at h
      | false =>
        rw [hbb] at h
        simp only [cond_false, Option.some.injEq] at h
        subst h
        have hne : a ≠ c := fun e => by subst e; simp at hbb
        simp only [VR] at hx hy
        obtain ⟨l, rfl, _⟩ := hy
        subst hx
        exact eq_forms (fun d => by simp [Op.equalIn, run_underlying hu, hne]) ⟨rfl, rfl⟩ (fun op => eqGuard_at_iface ..)
    · cases h
  · rename_i a _ c _
    split at h
    · rename_i e hu
      cases hbb : Nat.beq a c with
      | true => rw [hbb] at h; simp at h
      | false =>
        rw [hbb] at h
        simp only [cond_false, Option.some.injEq] at h
        subst h
        have hne : a ≠ c := fun e => by subst e; simp at hbb
        simp only [VR] at hx hy
        obtain ⟨l, rfl, _⟩ := hx
        obtain ⟨l', rfl, _⟩ := hy
        exact eq_forms (fun d => by simp [Op.equalIn, run_underlying hu, hne]) ⟨rfl, rfl⟩ (fun op => eqGuard_at_iface ..)
    · cases h
  · cases h

end Go.Proofs.YtiamenedboifeabGreatDoor.Rx

/- A reflective evaluator of the model's code, part J: one operation that calls no Go function. -/
import Derived.Test.YtiamenedboifeabGreatDoorRxI
import Derived.Test.YtiamenedboifeabGreatDoorRxU
namespace Go.Proofs.YtiamenedboifeabGreatDoor.Rx
open Go.Instr

def madeA (E : Env) (F : T AV) (o : Oper) : Option (AB × (Nat → AV)) :=
  match o.op with
  | .alloc t => allocA E.P t
  | .box t x => boxA t (opd F x)
  | .buildSlice t n ps => buildSliceA E.P t n (partsA F ps.toList)
  | .makeMap t r => makeMapA E.P t (r.map (opd F))
  | .makeSlice t l c => makeSliceA E.P t (opd F l) (opd F c)
  | .range t x => rangeA E.P t (opd F x)
  | .convert s d x => match opd F x with
    | .lit (.string b) => match E.P.underlying s with
      | some .string => match E.P.underlying d with
        | some (.slice e) => match E.P.underlying e with
          | some (.int .u8) => some (bytesRowA e b.data.toList)
          | _ => none
        | _ => none
      | _ => none
    | _ => none
  | .call c => match c.callee with
    | .value (.func f) => match E.ext.get f with
      | some 5 => match c.args.toList.map (opd F) with
        | [x] => match natOf x with
          | some n => noZeroA E.P E.bt n
          | none => none
        | _ => none
      | _ => none
    | _ => none
  | _ => none

theorem madeA_ok {E : Env} (OK : E.OK) {ρ : Place} {F : T AV} {n : Nat} {a : Act} (hf : FR ρ F n a) {o : Oper} {blk : AB} {f : Nat → AV} (h : madeA E F o = some (blk, f)) (w : World) :
    MadeR E.P ρ blk f w ((execOp a.eval o).run E.P w) := by
  unfold madeA at h
  split at h
  · rename_i t ho
    have := allocA_ok (ρ := ρ) h w
    unfold execOp
    simpa only [ho] using this
  · rename_i t x ho
    have := boxA_ok (P := E.P) (hf.eval x) h w
    unfold execOp
    simpa only [ho] using this
  · rename_i t k ps ho
    obtain ⟨p1, p2⟩ := partsA_ok hf ps.toList
    have := buildSliceA_ok (vals := ps.map fun (i, x) => (i, a.eval x)) (by simpa using p1) (by simpa using p2) h w
    unfold execOp
    simpa only [ho] using this
  · rename_i t r ho
    have := makeMapA_ok (ρ := ρ) (x := r.map a.eval) (by cases r with | none => exact trivial | some y => exact hf.eval y) h w
    unfold execOp
    simpa only [ho] using this
  · rename_i t l c ho
    have := makeSliceA_ok (hf.eval l) (hf.eval c) h w
    unfold execOp
    simpa only [ho] using this
  · rename_i t x ho
    have := rangeA_ok (hf.eval x) h w
    unfold execOp
    simpa only [ho] using this
  · rename_i s d x ho
    split at h
    · rename_i b hx
      split at h
      · rename_i hs
        split at h
        · rename_i e hd
          split at h
          · rename_i he
            simp only [Option.some.injEq] at h
            have hv := hf.eval x
            rw [hx] at hv
            simp only [VR] at hv
            have hok := stringBytes_ok (P := E.P) (ρ := ρ) (e := e) b w
            rw [h] at hok
            unfold execOp
            simp only [ho, hv]
            have hcv : (convert s d (.string b)).run E.P w = (Conv.stringToBytes e b).run E.P w := by
              simp [convert, run_underlying hs, run_underlying hd, run_underlying he]
            rw [Sem.run_bind] at hok ⊢
            rw [hcv]
            exact hok
          · cases h
        · cases h
      · cases h
    · cases h
  · rename_i c ho
    split at h
    · rename_i g hcal
      split at h
      · rename_i hk
        split at h
        · rename_i x hx
          split at h
          · rename_i k hk2
            have hargs := hf.evals c.args.toList
            rw [hx] at hargs
            simp only [VRs] at hargs
            obtain ⟨y, ys, h1, h2, rfl⟩ := hargs
            have := natOf_ok h2 hk2
            subst this
            have harr : c.args.map a.eval = #[.int .i64 k] := Array.ext' (by simpa using h1)
            rw [exec_func ho hcal rfl, OK.ext g 5 hk, harr]
            exact noZeroA_ok h w
          · cases h
        · cases h
      · cases h
    · cases h
  · cases h

/-- The made block, under its name. -/
theorem Step.made {E : Env} {base : Nat} {ρ : Place} {M : Mem} {w : World} (hc : Cons E base ρ M w) (hbase : base ≤ w.heap.size) {blk : AB} {f : Nat → AV} {r : Result Next} (h : MadeR E.P ρ blk f w r)
    {id next : Nat} (hid : ρ id = none) (hM : M.next ≤ next) (hn : id < next) (hMi : M.next ≤ id) :
    ∃ x w' ρ', r = .ok (.value x) w' ∧ VR ρ' (f id) x ∧ Step E base ρ w M ρ' w' ⟨next, M.bl.set id blk⟩ := by
  obtain ⟨x, w', ext, h1, h2, h3, h4, h5, h6, h7⟩ := h.made
  have hle := Place.le_upd (l := ⟨w.heap.size, 0, ext, undef⟩) hid
  obtain ⟨k1, k2⟩ := h7 (ρ.upd id ⟨w.heap.size, 0, ext, undef⟩) id hle (Place.upd_same _ _ _)
  exact ⟨x, w', _, h1, k2, Step.push hc hbase hid hM hn hMi rfl h2 h3 k1 h4 h5 h6⟩

/-! A string over bytes of one's own. -/

def u8List : List Int → Option (List UInt8)
  | [] => some []
  | n :: r => match n with
    | .ofNat k => match Nat.blt k 256 with
      | true => match u8List r with
        | some l => some (UInt8.ofNat k :: l)
        | none => none
      | false => none
    | .negSucc _ => none

theorem u8List_ok : ∀ (l : List Int) (r : List UInt8), u8List l = some r → l = r.map fun b => (b.toNat : Int)
  | [], r, h => by simp only [u8List, Option.some.injEq] at h; subst h; rfl
  | n :: l, r, h => by
    simp only [u8List] at h
    split at h
    · rename_i k
      split at h
      · rename_i hk
        split at h
        · rename_i q hq
          simp only [Option.some.injEq] at h
          subst h
          have hk' : k < 256 := by simpa [Nat.blt_eq] using hk
          rw [u8List_ok l q hq]
          simp only [List.map_cons, List.cons.injEq, and_true]
          rw [UInt8.toNat_ofNat']
          simp only [Int.ofNat_eq_natCast]
          omega
        · cases h
      · cases h
    · cases h

def stringA (E : Env) (M : Mem) (F : T AV) (c : Call) : Option (AV × Mem) :=
  match c.callee with
  | .builtin .unsafeString => match c.argTypes.toList with
    | [pt, _] => match E.P.underlying pt with
      | some (.pointer e) => match c.args.toList.map (opd F) with
        | [.ptr b 0, .lit (.int .i64 (.ofNat (k + 1)))] => match M.bl.get b with
          | some (.cells elem n cs row fz false) => match readA M b 0 (k + 1) with
            | some vs => match u8s vs with
              | some l => match u8List l with
                | some s => cond (Nat.beq elem e && Nat.beq (E.P.cellsOf e) 1 && Nat.ble (k + 1) big)
                    (some (.lit (.string ⟨s.toArray⟩), ⟨M.next, M.bl.set b (.cells elem n cs row (max fz (k + 1)) false)⟩)) none
                | none => none
              | none => none
            | none => none
          | _ => none
        | [.lit (.pointer none), .lit (.int .i64 0)] => some (.lit (.string .empty), M)
        | _ => none
      | _ => none
    | _ => none
  | _ => none

theorem freeze_front {w : World} {b : Nat} {arr : Array Value} {e : TypeId} {lo hi n : Nat} (h : w.heap[b]? = some (.cells arr e (lo, hi))) (hn : n ≠ 0) :
    ∃ lo' hi', (w.freeze ⟨b, 0, none⟩ n).heap[b]? = some (.cells arr e (lo', hi')) ∧ hi' ≤ max hi n := by
  have hlt : b < w.heap.size := by
    rcases Nat.lt_or_ge b w.heap.size with k | k
    · exact k
    · rw [Array.getElem?_eq_none k] at h; cases h
  simp only [World.freeze, hn, if_false]
  rw [Array.getElem?_modify]
  simp only [if_true, h, Option.map_some]
  by_cases e : lo = hi
  · exact ⟨0, n, by simp [e], by omega⟩
  · exact ⟨min lo 0, max hi n, by simp [e], by omega⟩

theorem stringA_ok {E : Env} {base : Nat} {ρ : Place} {M M' : Mem} {w : World} (hc : Cons E base ρ M w) {F : T AV} {n : Nat} {a : Act} (hf : FR ρ F n a) {o : Oper} {c : Call} (ho : o.op = .call c) {v : AV}
    (h : stringA E M F c = some (v, M')) : ∃ x w', (execOp a.eval o).run E.P w = .ok (.value x) w' ∧ VR ρ v x ∧ Step E base ρ w M ρ w' M' := by
  have hargs := hf.evals c.args.toList
  unfold stringA at h
  split at h
  · rename_i hcal
    obtain ⟨consts, hex⟩ := exec_builtin (ρ := a.eval) (P := E.P) ho hcal w
    rw [hex]
    split at h
    · rename_i pt it hpt
      have hat : c.argTypes = #[pt, it] := Array.ext' (by simpa using hpt)
      split at h
      · rename_i e hp
        split at h
        · rename_i b k hx
          rw [hx] at hargs
          simp only [VRs] at hargs
          obtain ⟨y, ys, h1, h2, y2, ys2, h3, h4, rfl⟩ := hargs
          subst h3
          simp only [VR] at h2 h4
          obtain ⟨l, hl, rfl⟩ := h2
          subst h4
          split at h
          · rename_i elem n cs row fz hb
            split at h
            · rename_i vs hvs
              split at h
              · rename_i q hq
                split at h
                · rename_i s hs
                  cases hg : (Nat.beq elem e && Nat.beq (E.P.cellsOf e) 1 && Nat.ble (k + 1) big) with
                  | false => rw [hg] at h; simp at h
                  | true =>
                    rw [hg] at h
                    simp only [cond_true, Option.some.injEq, Prod.mk.injEq] at h
                    obtain ⟨rfl, rfl⟩ := h
                    simp only [Bool.and_eq_true, Nat.ble_eq] at hg
                    obtain ⟨⟨g1, g2⟩, g3⟩ := hg
                    have g1 : elem = e := Nat.eq_of_beq_eq_true g1
                    have g2 : E.P.cellsOf e = 1 := Nat.eq_of_beq_eq_true g2
                    subst g1
                    obtain ⟨l', xs, k1, k2, k3, k4⟩ := readA_ok hc hvs
                    rw [hl, Option.some.injEq] at k1
                    subst k1
                    have hxs := u8s_ok _ _ _ k3 hq
                    rw [u8List_ok q s hs, List.map_map] at hxs
                    have hslen : s.length = k + 1 := by
                      rw [hxs] at k2
                      simpa using k2
                    obtain ⟨l', hl', arr, lo, hi', a1, a0, a2, a3, a4, a5, a6, a7⟩ := hc.blk b _ hb
                    rw [hl, Option.some.injEq] at hl'
                    subst hl'
                    have hkn : 0 + (k + 1) ≤ n := by
                      unfold readA at hvs
                      rw [hb] at hvs
                      simp only [] at hvs
                      cases hle : Nat.ble (0 + (k + 1)) n with
                      | true => simpa [Nat.ble_eq] using hle
                      | false => rw [hle] at hvs; simp at hvs
                    have hsh : w.shape? l.blk = some (elem, arr.size) := by simp only [World.shape?, a1]
                    have hrun := Lib.run_unsafeString_row (P := E.P) w pt it o.type elem hp g2 l.blk arr.size hsh s (by intro e; rw [e] at hslen; simp at hslen) (by omega) (by unfold big at g3; omega)
                      (fun j x hj => by
                        rw [addr_add]
                        have := k4 j (.int .u8 x.toNat) (by rw [hxs]; simp [hj])
                        rwa [a0] at this)
                    have harr : c.args.map a.eval = #[.pointer (some ⟨l.blk, 0, none⟩), .int .i64 s.length] := Array.ext' (by
                      rw [Array.toList_map, h1, a0, hslen]; rfl)
                    refine ⟨.string ⟨s.toArray⟩, w.freeze ⟨l.blk, 0, none⟩ s.length, ?_, by simp [VR], ?_⟩
                    · rw [harr, hat]
                      simp only [builtin, Sem.run_bind, hrun, Result.andThen_ok, Sem.run_pure]
                    · rw [hslen]
                      obtain ⟨lo2, hi2, b1, b2⟩ := freeze_front (n := k + 1) a1 (by omega)
                      have a7' := a7 rfl
                      refine Step.over hc hb hl (freeze_size _ _ _) (fun j hj => freeze_else (by simpa using hj)) ?_ (freeze_rest _ _ _).1 (freeze_rest _ _ _).2.1 (freeze_rest _ _ _).2.2
                      refine ⟨arr, lo2, hi2, b1, a0, a2, a3, a4, a5, fun o ho1 ho2 => by omega, fun _ => by omega⟩
                · cases h
              · cases h
            · cases h
          · cases h
        · rename_i hx
          rw [hx] at hargs
          simp only [VRs] at hargs
          obtain ⟨y, ys, h1, h2, y2, ys2, h3, h4, rfl⟩ := hargs
          subst h3
          simp only [VR] at h2 h4
          subst h2 h4
          simp only [Option.some.injEq, Prod.mk.injEq] at h
          obtain ⟨rfl, rfl⟩ := h
          have harr : c.args.map a.eval = #[.pointer none, .int .i64 0] := Array.ext' (by rw [Array.toList_map, h1])
          refine ⟨.string .empty, w, ?_, by simp [VR], Step.refl hc⟩
          rw [harr, hat]
          simp only [builtin, Sem.run_bind, Lib.run_unsafeString_none, Result.andThen_ok, Sem.run_pure]
        · cases h
      · cases h
    · cases h
  · cases h

/-! The next character of a string. -/

def nextA (M : Mem) (p : AV) (isString : Bool) : Option (AV × Mem) :=
  match p with
  | .ptr b 0 => match isString with
    | true => match M.bl.get b with
      | some (.siter s pos) => match Nat.blt pos s.size with
        | true => some (.tuple [.lit (.bool true), .lit (goInt pos), .lit (.int .i32 (Utf8.decode s pos).1)], ⟨M.next, M.bl.set b (.siter s (pos + (Utf8.decode s pos).2))⟩)
        | false => some (.tuple [.lit (.bool false)], M)
      | _ => none
    | false => none
  | _ => none

theorem setObj_here {w : World} {b : Nat} {o x : Obj} (h : w.heap[b]? = some o) : (w.heap.setIfInBounds b x)[b]? = some x := by
  have hlt : b < w.heap.size := by
    rcases Nat.lt_or_ge b w.heap.size with k | k
    · exact k
    · rw [Array.getElem?_eq_none k] at h; cases h
  simp [hlt]

theorem nextA_ok {E : Env} {base : Nat} {ρ : Place} {M M' : Mem} {w : World} (hc : Cons E base ρ M w) {p v : AV} {y : Value} {s : Bool} {t : TypeId} (hp : VR ρ p y)
    (h : nextA M p s = some (v, M')) : ∃ x w', (Instr.next y s t).run E.P w = .ok x w' ∧ VR ρ v x ∧ Step E base ρ w M ρ w' M' := by
  unfold nextA at h
  split at h
  · rename_i b
    split at h
    · split at h
      · rename_i str pos hb
        simp only [VR] at hp
        obtain ⟨l, hl, rfl⟩ := hp
        obtain ⟨l', hl', a0, a1⟩ := hc.blk b _ hb
        rw [hl, Option.some.injEq] at hl'
        subst hl'
        have hget : (getObj l.blk).run E.P w = .ok (.stringIter str pos) w := by simp [getObj, Sem.run, a1]
        split at h
        · rename_i hlt
          simp only [Option.some.injEq, Prod.mk.injEq] at h
          obtain ⟨rfl, rfl⟩ := h
          have hlt' : pos < str.size := by simpa [Nat.blt_eq] using hlt
          have hset : (setObj l.blk (.stringIter str (pos + (Utf8.decode str pos).2))).run E.P w = .ok () { w with heap := w.heap.setIfInBounds l.blk (.stringIter str (pos + (Utf8.decode str pos).2)) } := by
            simp [setObj, Sem.run, a1]
          refine ⟨.tuple #[.bool true, goInt pos, .int .i32 (Utf8.decode str pos).1], { w with heap := w.heap.setIfInBounds l.blk (.stringIter str (pos + (Utf8.decode str pos).2)) }, ?_, ?_, ?_⟩
          · rw [a0]
            simp [Instr.next, hget, hlt', hset]
          · simp only [VR, VRs]
            exact ⟨_, rfl, _, _, rfl, rfl, _, _, rfl, rfl, _, _, rfl, rfl, rfl⟩
          · refine Step.over hc hb hl (by simp) (fun k hk => by simp only []; rw [Array.getElem?_setIfInBounds_ne (fun e => hk e.symm)]) ?_ rfl rfl rfl
            exact ⟨a0, setObj_here a1⟩
        · rename_i hlt
          simp only [Option.some.injEq, Prod.mk.injEq] at h
          obtain ⟨rfl, rfl⟩ := h
          have hlt' : ¬ pos < str.size := by
            intro k
            have : Nat.blt pos str.size = true := by simpa [Nat.blt_eq] using k
            rw [this] at hlt; cases hlt
          refine ⟨.tuple #[.bool false], w, ?_, ?_, Step.refl hc⟩
          · rw [a0]
            simp [Instr.next, hget, hlt']
          · simp only [VR, VRs]
            exact ⟨_, rfl, _, _, rfl, rfl, rfl⟩
      · cases h
    · cases h
  · cases h

/-! One operation. -/

def loudA (E : Env) (M : Mem) (F : T AV) (o : Oper) : Option (AV × Mem) :=
  match o.op with
  | .store t p x => match storeA E.P M t (opd F p) (opd F x) with
    | some M' => some (.unk, M')
    | none => none
  | .next it true => nextA M (opd F it) true
  | .next it false => nextMapA M (opd F it)
  | .range t x => rangeMapA E.P M t (opd F x)
  | .entry it => match entryA M (opd F it) with
    | some v => some (v, M)
    | none => none
  | .mapUpdate t m k x => match updateA E.P M t (opd F m) (opd F k) (opd F x) with
    | some M' => some (.unk, M')
    | none => none
  | .insert t m k x => match updateA E.P M t (opd F m) (opd F k) (opd F x) with
    | some M' => some (.unk, M')
    | none => none
  | .mapEntry t m k => mapEntryA E.P M t (opd F m) (opd F k)
  | .entryStore _ m s x => match entryStoreA M (opd F m) (opd F s) (opd F x) with
    | some M' => some (.unk, M')
    | none => none
  | .call c => match c.callee with
    | .builtin .append => match c.argTypes.toList with
      | [t, tx] => match c.args.toList.map (opd F) with
        | [s, x] => appendA E M t tx s x
        | _ => none
      | _ => none
    | .builtin .unsafeString => stringA E M F c
    | .builtin .delete => match c.argTypes[0]? with
      | some t => match c.args.toList with
        | [m, k] => match deleteA E.P M t (opd F m) (opd F k) with
          | some M' => some (.tuple [], M')
          | none => none
        | _ => none
      | none => none
    | _ => none
  | _ => none

theorem loudA_ok {E : Env} {base : Nat} {ρ : Place} {M M' : Mem} {w : World} (hc : Cons E base ρ M w) (hbase : base ≤ w.heap.size) {F : T AV} {n : Nat} {a : Act} (hf : FR ρ F n a) {o : Oper} {v : AV}
    (h : loudA E M F o = some (v, M')) : ∃ x w' ρ', ((execOp a.eval o).run E.P w = .ok (.value x) w' ∨ ((execOp a.eval o).run E.P w = .ok .skip w' ∧ x = undef)) ∧ VR ρ' v x ∧ Step E base ρ w M ρ' w' M' := by
  unfold loudA at h
  split at h
  · rename_i t p x ho
    split at h
    · rename_i M2 hM
      simp only [Option.some.injEq, Prod.mk.injEq] at h
      obtain ⟨rfl, rfl⟩ := h
      obtain ⟨w', h1, h2⟩ := storeA_ok hc (hf.eval p) (hf.eval x) hM
      refine ⟨undef, w', ρ, .inr ⟨?_, rfl⟩, by simp [VR], h2⟩
      unfold execOp
      simp [ho, h1]
    · cases h
  · rename_i it ho
    obtain ⟨x, w', h1, h2, h3⟩ := nextA_ok (t := o.type) hc (hf.eval it) h
    refine ⟨x, w', ρ, .inl ?_, h2, h3⟩
    unfold execOp
    simp [ho, h1]
  · rename_i it ho
    obtain ⟨x, w', h1, h2, h3⟩ := nextMapA_ok (t := o.type) hc (hf.eval it) h
    refine ⟨x, w', ρ, .inl ?_, h2, h3⟩
    unfold execOp
    simp [ho, h1]
  · rename_i t x ho
    obtain ⟨z, w', ρ', h1, h2, h3⟩ := rangeMapA_ok hc hbase (hf.eval x) h
    refine ⟨z, w', ρ', .inl ?_, h2, h3⟩
    unfold execOp
    simp [ho, h1]
  · rename_i it ho
    split at h
    · rename_i u hu
      simp only [Option.some.injEq, Prod.mk.injEq] at h
      obtain ⟨rfl, rfl⟩ := h
      obtain ⟨z, h1, h2⟩ := entryA_ok hc (hf.eval it) hu
      refine ⟨z, w, ρ, .inl ?_, h2, Step.refl hc⟩
      unfold execOp
      simp [ho, h1]
    · cases h
  · rename_i t m k x ho
    split at h
    · rename_i M2 hM
      simp only [Option.some.injEq, Prod.mk.injEq] at h
      obtain ⟨rfl, rfl⟩ := h
      obtain ⟨w', h1, h2⟩ := updateA_ok hc (hf.eval m) (hf.eval k) (hf.eval x) hM
      refine ⟨undef, w', ρ, .inr ⟨?_, rfl⟩, by simp [VR], h2⟩
      unfold execOp
      simp [ho, h1]
    · cases h
  · rename_i t m k x ho
    split at h
    · rename_i M2 hM
      simp only [Option.some.injEq, Prod.mk.injEq] at h
      obtain ⟨rfl, rfl⟩ := h
      obtain ⟨w', h1, h2⟩ := updateA_ok hc (hf.eval m) (hf.eval k) (hf.eval x) hM
      refine ⟨undef, w', ρ, .inr ⟨?_, rfl⟩, by simp [VR], h2⟩
      unfold execOp
      simp [ho, h1]
    · cases h
  · rename_i t m k ho
    obtain ⟨z, w', h1, h2, h3⟩ := mapEntryA_ok hc (hf.eval m) (hf.eval k) h
    refine ⟨z, w', ρ, .inl ?_, h2, h3⟩
    unfold execOp
    simp [ho, h1]
  · rename_i t m s x ho
    split at h
    · rename_i M2 hM
      simp only [Option.some.injEq, Prod.mk.injEq] at h
      obtain ⟨rfl, rfl⟩ := h
      obtain ⟨w', h1, h2⟩ := entryStoreA_ok (t := t) hc (hf.eval m) (hf.eval s) (hf.eval x) hM
      refine ⟨undef, w', ρ, .inr ⟨?_, rfl⟩, by simp [VR], h2⟩
      unfold execOp
      simp [ho, h1]
    · cases h
  · rename_i c ho
    split at h
    · rename_i hcal
      split at h
      · rename_i t tx ht
        have hat : c.argTypes = #[t, tx] := Array.ext' (by simpa using ht)
        split at h
        · rename_i s x hx
          have hargs := hf.evals c.args.toList
          rw [hx] at hargs
          simp only [VRs] at hargs
          obtain ⟨y, ys, h1, h2, y2, ys2, h3, h4, rfl⟩ := hargs
          subst h3
          obtain ⟨z, w', ρ', k1, k2, k3⟩ := appendA_ok (ty := o.type) hc hbase h2 h4 h
          have harr : c.args.map a.eval = #[y, y2] := Array.ext' (by rw [Array.toList_map, h1])
          obtain ⟨consts, hex⟩ := exec_builtin (ρ := a.eval) (P := E.P) ho hcal w
          refine ⟨z, w', ρ', .inl ?_, k2, k3⟩
          rw [hex, harr, hat]
          simp only [builtin, Sem.run_bind, k1, Result.andThen_ok, Sem.run_pure]
        · cases h
      · cases h
    · obtain ⟨x, w', h1, h2, h3⟩ := stringA_ok hc hf ho h
      exact ⟨x, w', ρ, .inl h1, h2, h3⟩
    · rename_i hcal
      split at h
      · rename_i t ht
        split at h
        · rename_i m k hx
          split at h
          · rename_i M2 hM
            simp only [Option.some.injEq, Prod.mk.injEq] at h
            obtain ⟨rfl, rfl⟩ := h
            obtain ⟨w', h1, h2⟩ := deleteA_ok (ty := o.type) hc ht (hf.eval m) (hf.eval k) hM
            have harr : c.args.map a.eval = #[a.eval m, a.eval k] := Array.ext' (by rw [Array.toList_map, hx]; rfl)
            obtain ⟨consts, hex⟩ := exec_builtin (ρ := a.eval) (P := E.P) ho hcal w
            refine ⟨.tuple #[], w', ρ, .inl ?_, by simp only [VR, VRs]; exact ⟨_, rfl, rfl⟩, h2⟩
            rw [hex, harr]
            simp only [builtin, Sem.run_bind, h1, Result.andThen_ok, Sem.run_pure]
          · cases h
        · cases h
      · cases h
    · cases h
  · cases h

/-- maps.Clone's own. -/
def cloneA (E : Env) (M : Mem) (F : T AV) (o : Oper) : Option (AV × Mem) :=
  match o.op with
  | .call c => match c.callee with
    | .value (.func f) => match E.ext.get f with
      | some 11 => match c.args.toList.map (opd F) with
        | [.iface t (.mapp b)] => match M.bl.get b with
          | some (.map es cl) => some (.iface t (.mapp M.next), ⟨M.next + 1, M.bl.set M.next (.map es cl)⟩)
          | _ => none
        | _ => none
      | _ => none
    | _ => none
  | _ => none

/-- What an operation that calls no Go function comes to. -/
def opA (E : Env) (M : Mem) (F : T AV) (o : Oper) : Option (AV × Mem) :=
  match quiet E M F o with
  | some v => some (v, M)
  | none => match madeA E F o with
    | some (blk, f) => some (f M.next, ⟨M.next + 1, M.bl.set M.next blk⟩)
    | none => match cloneA E M F o with
      | some r => some r
      | none => match E.opn o.op (opd F) with
        | some v => some (v, M)
        | none => loudA E M F o

theorem Cons.none {E : Env} {base : Nat} {ρ : Place} {M : Mem} {w : World} (hc : Cons E base ρ M w) : ρ M.next = none := by
  cases hq : ρ M.next with
  | none => rfl
  | some l => have := hc.bound _ _ hq; omega

theorem cloneA_ok {E : Env} (OK : E.OK) {base : Nat} {ρ : Place} {M M' : Mem} {w : World} (hc : Cons E base ρ M w) (hbase : base ≤ w.heap.size) {F : T AV} {n : Nat} {a : Act} (hf : FR ρ F n a) {o : Oper} {v : AV}
    (h : cloneA E M F o = some (v, M')) : ∃ x w' ρ', (execOp a.eval o).run E.P w = .ok (.value x) w' ∧ VR ρ' v x ∧ Step E base ρ w M ρ' w' M' := by
  unfold cloneA at h
  split at h
  · rename_i c ho
    split at h
    · rename_i f hcal
      split at h
      · rename_i hk
        split at h
        · rename_i t b hargs
          split at h
          · rename_i es cl hb
            simp only [Option.some.injEq, Prod.mk.injEq] at h
            obtain ⟨rfl, rfl⟩ := h
            have hv := hf.evals c.args.toList
            rw [hargs] at hv
            simp only [VRs] at hv
            obtain ⟨y, ys, h1, h2, rfl⟩ := hv
            simp only [VR] at h2
            obtain ⟨y', rfl, l, hl, rfl⟩ := h2
            obtain ⟨l', hl', h0, ents, a1, a2⟩ := hc.blk b _ hb
            rw [hl, Option.some.injEq] at hl'
            subst hl'
            have harr : c.args.map a.eval = #[.iface t (.map (some l.blk))] := Array.ext' (by simpa using h1)
            have hnone := hc.none
            have hget : (getObj l.blk).run E.P w = .ok (.map ents cl) w := by simp [getObj, Sem.run, a1]
            refine ⟨.iface t (.map (some w.heap.size)), w.alloc (.map ents cl), ρ.upd M.next ⟨w.heap.size, 0, 0, undef⟩, ?_, ?_,
              Step.push hc hbase hnone (Nat.le_succ _) (Nat.lt_succ_self _) (Nat.le_refl _) rfl (alloc_old w _).1 (alloc_old w _).2 ⟨rfl, ents, alloc_new w _, a2.mono (Place.le_upd hnone)⟩ rfl rfl rfl⟩
            · have hrun : (Extern.MapsClone.clone #[.iface t (.map (some l.blk))]).run E.P w = .ok (.iface t (.map (some w.heap.size))) (w.alloc (.map ents cl)) := by
                show ((getObj l.blk >>= fun o => match o with | .map entries clock => do pure (.iface t (.map (some (← newObj (.map entries clock))))) | _ => stuck "maps.clone: a map expected") : Sem Value).run E.P w = _
                simp [hget]
              rw [exec_func ho hcal rfl, OK.ext f 11 hk, harr]
              simp only [extSem, Sem.run_bind, hrun, Result.andThen_ok, Sem.run_pure]
            · simp only [VR]
              exact ⟨_, rfl, _, Place.upd_same _ _ _, rfl⟩
          · cases h
        · cases h
      · cases h
    · cases h
  · cases h

theorem opA_ok {E : Env} (OK : E.OK) {base : Nat} {ρ : Place} {M M' : Mem} {w : World} (hc : Cons E base ρ M w) (hbase : base ≤ w.heap.size) {F : T AV} {n : Nat} {a : Act} (hf : FR ρ F n a) {o : Oper} {v : AV}
    (h : opA E M F o = some (v, M')) : ∃ x w' ρ', ((execOp a.eval o).run E.P w = .ok (.value x) w' ∨ ((execOp a.eval o).run E.P w = .ok .skip w' ∧ x = undef)) ∧ VR ρ' v x ∧ Step E base ρ w M ρ' w' M' := by
  unfold opA at h
  split at h
  · rename_i u hu
    simp only [Option.some.injEq, Prod.mk.injEq] at h
    obtain ⟨rfl, rfl⟩ := h
    obtain ⟨x, h1, h2⟩ := quiet_ok OK hc hf hu
    exact ⟨x, w, ρ, .inl h1, h2, Step.refl hc⟩
  · split at h
    · rename_i blk f hm
      simp only [Option.some.injEq, Prod.mk.injEq] at h
      obtain ⟨rfl, rfl⟩ := h
      obtain ⟨x, w', ρ', h1, h2, h3⟩ := Step.made hc hbase (madeA_ok OK hf hm w) hc.none (Nat.le_succ _) (Nat.lt_succ_self _) (Nat.le_refl _)
      exact ⟨x, w', ρ', .inl h1, h2, h3⟩
    · split at h
      · rename_i r hr
        simp only [Option.some.injEq] at h
        subst h
        obtain ⟨x, w', ρ', h1, h2, h3⟩ := cloneA_ok OK hc hbase hf hr
        exact ⟨x, w', ρ', .inl h1, h2, h3⟩
      · split at h
        · rename_i u hu
          simp only [Option.some.injEq, Prod.mk.injEq] at h
          obtain ⟨rfl, rfl⟩ := h
          obtain ⟨x, w', h1, h2, h3, h4, h5, h6⟩ := OK.opn _ _ _ hu base ρ w a.eval hc.glob hc.sym hf.eval o rfl
          exact ⟨x, w', ρ, .inl h1, h2, Step.drawn hc h3 h4 h5 h6⟩
        · exact loudA_ok hc hbase hf h

end Go.Proofs.YtiamenedboifeabGreatDoor.Rx

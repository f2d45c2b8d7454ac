/- The evaluator, third part: loud operations, calls, regions. -/
import Derived.Test.YtkeibmkcgnppeaaGreatDoorZRb
import Derived.RangeFuncIn
import Derived.OrdersIn
namespace Go.Proofs.YtkeibmkcgnppeaaGreatDoor.Rx
open Go.Instr
def madeA (E : Env) (F : T AV) (o : Oper) : Option (AB × (Nat → AV)) :=
  match o.op with
  | .alloc t => allocA E.P t
  | .box t x => boxA t (opd F x)
  | .buildSlice t n ps => buildSliceA E.P t n (partsA F ps.toList)
  | .makeMap t r => makeMapA E.P t (r.map (opd F))
  | .makeSlice t l c => makeSliceA E.P t (opd F l) (opd F c)
  | .range t x => rangeA E.P t (opd F x)
  | .convert s d x => match opd F x with
    | .lit (.string b) => match E.P.underlying s with
      | some .string => match E.P.underlying d with
        | some (.slice e) => match E.P.underlying e with
          | some (.int .u8) => some (bytesRowA e b.data.toList)
          | _ => none
        | _ => none
      | _ => none
    | _ => none
  | .call c => match c.callee with
    | .value (.func f) => match E.ext.get f with
      | some 5 => match c.args.toList.map (opd F) with
        | [x] => match natOf x with
          | some n => noZeroA E.P E.bt n
          | none => none
        | _ => none
      | _ => none
    | _ => none
  | _ => none
theorem madeA_ok {E : Env} (OK : E.OK) {ρ : Place} {F : T AV} {n : Nat} {a : Act} (hf : FR ρ F n a) {o : Oper} {blk : AB} {f : Nat → AV} (h : madeA E F o = some (blk, f)) (w : World) :
    MadeR E.P ρ blk f w ((execOp a.eval o).run E.P w) := by
  unfold madeA at h
  split at h
  · rename_i t ho
    have := allocA_ok (ρ := ρ) h w
    unfold execOp
    simpa only [ho] using this
  · rename_i t x ho
    have := boxA_ok (P := E.P) (hf.eval x) h w
    unfold execOp
    simpa only [ho] using this
  · rename_i t k ps ho
    obtain ⟨p1, p2⟩ := partsA_ok hf ps.toList
    have := buildSliceA_ok (vals := ps.map fun (i, x) => (i, a.eval x)) (by simpa using p1) (by simpa using p2) h w
    unfold execOp
    simpa only [ho] using this
  · rename_i t r ho
    have := makeMapA_ok (ρ := ρ) (x := r.map a.eval) (by cases r with | none => exact trivial | some y => exact hf.eval y) h w
    unfold execOp
    simpa only [ho] using this
  · rename_i t l c ho
    have := makeSliceA_ok (hf.eval l) (hf.eval c) h w
    unfold execOp
    simpa only [ho] using this
  · rename_i t x ho
    have := rangeA_ok (hf.eval x) h w
    unfold execOp
    simpa only [ho] using this
  · rename_i s d x ho
    split at h
    · rename_i b hx
      split at h
      · rename_i hs
        split at h
        · rename_i e hd
          split at h
          · rename_i he
            simp only [Option.some.injEq] at h
            have hv := hf.eval x
            rw [hx] at hv
            simp only [VR] at hv
            have hok := stringBytes_ok (P := E.P) (ρ := ρ) (e := e) b w
            rw [h] at hok
            unfold execOp
            simp only [ho, hv]
            have hcv : (convert s d (.string b)).run E.P w = (Conv.stringToBytes e b).run E.P w := by
              simp [convert, run_underlying hs, run_underlying hd, run_underlying he]
            rw [Sem.run_bind] at hok ⊢
            rw [hcv]
            exact hok
          · cases h
        · cases h
      · cases h
    · cases h
  · rename_i c ho
    split at h
    · rename_i g hcal
      split at h
      · rename_i hk
        split at h
        · rename_i x hx
          split at h
          · rename_i k hk2
            have hargs := hf.evals c.args.toList
            rw [hx] at hargs
            simp only [VRs] at hargs
            obtain ⟨y, ys, h1, h2, rfl⟩ := hargs
            have := natOf_ok h2 hk2
            subst this
            have harr : c.args.map a.eval = #[.int .i64 k] := Array.ext' (by simpa using h1)
            rw [exec_func ho hcal rfl, OK.ext g 5 hk, harr]
            exact noZeroA_ok h w
          · cases h
        · cases h
      · cases h
    · cases h
  · cases h
theorem Step.made {E : Env} {base : Nat} {ρ : Place} {M : Mem} {w : World} (hc : Cons E base ρ M w) (hbase : base ≤ w.heap.size) {blk : AB} {f : Nat → AV} {r : Result Next} (h : MadeR E.P ρ blk f w r)
    {id next : Nat} (hid : ρ id = none) (hM : M.next ≤ next) (hn : id < next) (hMi : M.next ≤ id) :
    ∃ x w' ρ', r = .ok (.value x) w' ∧ VR ρ' (f id) x ∧ Step E base ρ w M ρ' w' ⟨next, M.bl.set id blk⟩ := by
  obtain ⟨x, w', ext, h1, h2, h3, h4, h5, h6, h7⟩ := h.made
  have hle := Place.le_upd (l := ⟨w.heap.size, 0, ext, undef⟩) hid
  obtain ⟨k1, k2⟩ := h7 (ρ.upd id ⟨w.heap.size, 0, ext, undef⟩) id hle (Place.upd_same _ _ _)
  exact ⟨x, w', _, h1, k2, Step.push hc hbase hid hM hn hMi rfl h2 h3 k1 h4 h5 h6⟩
def u8List : List Int → Option (List UInt8)
  | [] => some []
  | n :: r => match n with
    | .ofNat k => match Nat.blt k 256 with
      | true => match u8List r with
        | some l => some (UInt8.ofNat k :: l)
        | none => none
      | false => none
    | .negSucc _ => none
theorem u8List_ok : ∀ (l : List Int) (r : List UInt8), u8List l = some r → l = r.map fun b => (b.toNat : Int)
  | [], r, h => by simp only [u8List, Option.some.injEq] at h; subst h; rfl
  | n :: l, r, h => by
    simp only [u8List] at h
    split at h
    · rename_i k
      split at h
      · rename_i hk
        split at h
        · rename_i q hq
          simp only [Option.some.injEq] at h
          subst h
          have hk' : k < 256 := by simpa [Nat.blt_eq] using hk
          rw [u8List_ok l q hq]
          simp only [List.map_cons, List.cons.injEq, and_true]
          rw [UInt8.toNat_ofNat']
          simp only [Int.ofNat_eq_natCast]
          omega
        · cases h
      · cases h
    · cases h
def stringA (E : Env) (M : Mem) (F : T AV) (c : Call) : Option (AV × Mem) :=
  match c.callee with
  | .builtin .unsafeString => match c.argTypes.toList with
    | [pt, _] => match E.P.underlying pt with
      | some (.pointer e) => match c.args.toList.map (opd F) with
        | [.ptr b 0, .lit (.int .i64 (.ofNat (k + 1)))] => match M.bl.get b with
          | some (.cells elem n cs row fz false) => match readA M b 0 (k + 1) with
            | some vs => match u8s vs with
              | some l => match u8List l with
                | some s => cond (Nat.beq elem e && Nat.beq (E.P.cellsOf e) 1 && Nat.ble (k + 1) big)
                    (some (.lit (.string ⟨s.toArray⟩), ⟨M.next, M.bl.set b (.cells elem n cs row (max fz (k + 1)) false)⟩)) none
                | none => none
              | none => none
            | none => none
          | _ => none
        | [.lit (.pointer none), .lit (.int .i64 0)] => some (.lit (.string .empty), M)
        | _ => none
      | _ => none
    | _ => none
  | _ => none
theorem freeze_front {w : World} {b : Nat} {arr : Array Value} {e : TypeId} {lo hi n : Nat} (h : w.heap[b]? = some (.cells arr e (lo, hi))) (hn : n ≠ 0) :
    ∃ lo' hi', (w.freeze ⟨b, 0, none⟩ n).heap[b]? = some (.cells arr e (lo', hi')) ∧ hi' ≤ max hi n := by
  have hlt : b < w.heap.size := by
    rcases Nat.lt_or_ge b w.heap.size with k | k
    · exact k
    · rw [Array.getElem?_eq_none k] at h; cases h
  simp only [World.freeze, hn, if_false]
  rw [Array.getElem?_modify]
  simp only [if_true, h, Option.map_some]
  by_cases e : lo = hi
  · exact ⟨0, n, by simp [e], by omega⟩
  · exact ⟨min lo 0, max hi n, by simp [e], by omega⟩
theorem stringA_ok {E : Env} {base : Nat} {ρ : Place} {M M' : Mem} {w : World} (hc : Cons E base ρ M w) {F : T AV} {n : Nat} {a : Act} (hf : FR ρ F n a) {o : Oper} {c : Call} (ho : o.op = .call c) {v : AV}
    (h : stringA E M F c = some (v, M')) : ∃ x w', (execOp a.eval o).run E.P w = .ok (.value x) w' ∧ VR ρ v x ∧ Step E base ρ w M ρ w' M' := by
  have hargs := hf.evals c.args.toList
  unfold stringA at h
  split at h
  · rename_i hcal
    obtain ⟨consts, hex⟩ := exec_builtin (ρ := a.eval) (P := E.P) ho hcal w
    rw [hex]
    split at h
    · rename_i pt it hpt
      have hat : c.argTypes = #[pt, it] := Array.ext' (by simpa using hpt)
      split at h
      · rename_i e hp
        split at h
        · rename_i b k hx
          rw [hx] at hargs
          simp only [VRs] at hargs
          obtain ⟨y, ys, h1, h2, y2, ys2, h3, h4, rfl⟩ := hargs
          subst h3
          simp only [VR] at h2 h4
          obtain ⟨l, hl, rfl⟩ := h2
          subst h4
          split at h
          · rename_i elem n cs row fz hb
            split at h
            · rename_i vs hvs
              split at h
              · rename_i q hq
                split at h
                · rename_i s hs
                  cases hg : (Nat.beq elem e && Nat.beq (E.P.cellsOf e) 1 && Nat.ble (k + 1) big) with
                  | false => rw [hg] at h; simp at h
                  | true =>
                    rw [hg] at h
                    simp only [cond_true, Option.some.injEq, Prod.mk.injEq] at h
                    obtain ⟨rfl, rfl⟩ := h
                    simp only [Bool.and_eq_true, Nat.ble_eq] at hg
                    obtain ⟨⟨g1, g2⟩, g3⟩ := hg
                    have g1 : elem = e := Nat.eq_of_beq_eq_true g1
                    have g2 : E.P.cellsOf e = 1 := Nat.eq_of_beq_eq_true g2
                    subst g1
                    obtain ⟨l', xs, k1, k2, k3, k4⟩ := readA_ok hc hvs
                    rw [hl, Option.some.injEq] at k1
                    subst k1
                    have hxs := u8s_ok _ _ _ k3 hq
                    rw [u8List_ok q s hs, List.map_map] at hxs
                    have hslen : s.length = k + 1 := by
                      rw [hxs] at k2
                      simpa using k2
                    obtain ⟨l', hl', arr, lo, hi', a1, a0, a2, a3, a4, a5, a6, a7⟩ := hc.blk b _ hb
                    rw [hl, Option.some.injEq] at hl'
                    subst hl'
                    have hkn : 0 + (k + 1) ≤ n := by
                      unfold readA at hvs
                      rw [hb] at hvs
                      simp only [] at hvs
                      cases hle : Nat.ble (0 + (k + 1)) n with
                      | true => simpa [Nat.ble_eq] using hle
                      | false => rw [hle] at hvs; simp at hvs
                    have hsh : w.shape? l.blk = some (elem, arr.size) := by simp only [World.shape?, a1]
                    have hrun := Lib.run_unsafeString_row (P := E.P) w pt it o.type elem hp g2 l.blk arr.size hsh s (by intro e; rw [e] at hslen; simp at hslen) (by omega) (by unfold big at g3; omega)
                      (fun j x hj => by
                        rw [addr_add]
                        have := k4 j (.int .u8 x.toNat) (by rw [hxs]; simp [hj])
                        rwa [a0] at this)
                    have harr : c.args.map a.eval = #[.pointer (some ⟨l.blk, 0, none⟩), .int .i64 s.length] := Array.ext' (by
                      rw [Array.toList_map, h1, a0, hslen]; rfl)
                    refine ⟨.string ⟨s.toArray⟩, w.freeze ⟨l.blk, 0, none⟩ s.length, ?_, by simp [VR], ?_⟩
                    · rw [harr, hat]
                      simp only [builtin, Sem.run_bind, hrun, Result.andThen_ok, Sem.run_pure]
                    · rw [hslen]
                      obtain ⟨lo2, hi2, b1, b2⟩ := freeze_front (n := k + 1) a1 (by omega)
                      have a7' := a7 rfl
                      refine Step.over hc hb hl (freeze_size _ _ _) (fun j hj => freeze_else (by simpa using hj)) ?_ (freeze_rest _ _ _).1 (freeze_rest _ _ _).2.1 (freeze_rest _ _ _).2.2
                      refine ⟨arr, lo2, hi2, b1, a0, a2, a3, a4, a5, fun o ho1 ho2 => by omega, fun _ => by omega⟩
                · cases h
              · cases h
            · cases h
          · cases h
        · rename_i hx
          rw [hx] at hargs
          simp only [VRs] at hargs
          obtain ⟨y, ys, h1, h2, y2, ys2, h3, h4, rfl⟩ := hargs
          subst h3
          simp only [VR] at h2 h4
          subst h2 h4
          simp only [Option.some.injEq, Prod.mk.injEq] at h
          obtain ⟨rfl, rfl⟩ := h
          have harr : c.args.map a.eval = #[.pointer none, .int .i64 0] := Array.ext' (by rw [Array.toList_map, h1])
          refine ⟨.string .empty, w, ?_, by simp [VR], Step.refl hc⟩
          rw [harr, hat]
          simp only [builtin, Sem.run_bind, Lib.run_unsafeString_none, Result.andThen_ok, Sem.run_pure]
        · cases h
      · cases h
    · cases h
  · cases h
def nextA (M : Mem) (p : AV) (isString : Bool) : Option (AV × Mem) :=
  match p with
  | .ptr b 0 => match isString with
    | true => match M.bl.get b with
      | some (.siter s pos) => match Nat.blt pos s.size with
        | true => some (.tuple [.lit (.bool true), .lit (goInt pos), .lit (.int .i32 (Utf8.decode s pos).1)], ⟨M.next, M.bl.set b (.siter s (pos + (Utf8.decode s pos).2))⟩)
        | false => some (.tuple [.lit (.bool false)], M)
      | _ => none
    | false => none
  | _ => none
theorem setObj_here {w : World} {b : Nat} {o x : Obj} (h : w.heap[b]? = some o) : (w.heap.setIfInBounds b x)[b]? = some x := by
  have hlt : b < w.heap.size := by
    rcases Nat.lt_or_ge b w.heap.size with k | k
    · exact k
    · rw [Array.getElem?_eq_none k] at h; cases h
  simp [hlt]
theorem nextA_ok {E : Env} {base : Nat} {ρ : Place} {M M' : Mem} {w : World} (hc : Cons E base ρ M w) {p v : AV} {y : Value} {s : Bool} {t : TypeId} (hp : VR ρ p y)
    (h : nextA M p s = some (v, M')) : ∃ x w', (Instr.next y s t).run E.P w = .ok x w' ∧ VR ρ v x ∧ Step E base ρ w M ρ w' M' := by
  unfold nextA at h
  split at h
  · rename_i b
    split at h
    · split at h
      · rename_i str pos hb
        simp only [VR] at hp
        obtain ⟨l, hl, rfl⟩ := hp
        obtain ⟨l', hl', a0, a1⟩ := hc.blk b _ hb
        rw [hl, Option.some.injEq] at hl'
        subst hl'
        have hget : (getObj l.blk).run E.P w = .ok (.stringIter str pos) w := by simp [getObj, Sem.run, a1]
        split at h
        · rename_i hlt
          simp only [Option.some.injEq, Prod.mk.injEq] at h
          obtain ⟨rfl, rfl⟩ := h
          have hlt' : pos < str.size := by simpa [Nat.blt_eq] using hlt
          have hset : (setObj l.blk (.stringIter str (pos + (Utf8.decode str pos).2))).run E.P w = .ok () { w with heap := w.heap.setIfInBounds l.blk (.stringIter str (pos + (Utf8.decode str pos).2)) } := by
            simp [setObj, Sem.run, a1]
          refine ⟨.tuple #[.bool true, goInt pos, .int .i32 (Utf8.decode str pos).1], { w with heap := w.heap.setIfInBounds l.blk (.stringIter str (pos + (Utf8.decode str pos).2)) }, ?_, ?_, ?_⟩
          · rw [a0]
            simp [Instr.next, hget, hlt', hset]
          · simp only [VR, VRs]
            exact ⟨_, rfl, _, _, rfl, rfl, _, _, rfl, rfl, _, _, rfl, rfl, rfl⟩
          · refine Step.over hc hb hl (by simp) (fun k hk => by simp only []; rw [Array.getElem?_setIfInBounds_ne (fun e => hk e.symm)]) ?_ rfl rfl rfl
            exact ⟨a0, setObj_here a1⟩
        · rename_i hlt
          simp only [Option.some.injEq, Prod.mk.injEq] at h
          obtain ⟨rfl, rfl⟩ := h
          have hlt' : ¬ pos < str.size := by
            intro k
            have : Nat.blt pos str.size = true := by simpa [Nat.blt_eq] using k
            rw [this] at hlt; cases hlt
          refine ⟨.tuple #[.bool false], w, ?_, ?_, Step.refl hc⟩
          · rw [a0]
            simp [Instr.next, hget, hlt']
          · simp only [VR, VRs]
            exact ⟨_, rfl, _, _, rfl, rfl, rfl⟩
      · cases h
    · cases h
  · cases h
def loudA (E : Env) (M : Mem) (F : T AV) (o : Oper) : Option (AV × Mem) :=
  match o.op with
  | .store t p x => match storeA E.P M t (opd F p) (opd F x) with
    | some M' => some (.unk, M')
    | none => none
  | .next it true => nextA M (opd F it) true
  | .next it false => nextMapA M (opd F it)
  | .range t x => rangeMapA E.P M t (opd F x)
  | .entry it => match entryA M (opd F it) with
    | some v => some (v, M)
    | none => none
  | .mapUpdate t m k x => match updateA E.P M t (opd F m) (opd F k) (opd F x) with
    | some M' => some (.unk, M')
    | none => none
  | .insert t m k x => match updateA E.P M t (opd F m) (opd F k) (opd F x) with
    | some M' => some (.unk, M')
    | none => none
  | .mapEntry t m k => mapEntryA E.P M t (opd F m) (opd F k)
  | .entryStore _ m s x => match entryStoreA M (opd F m) (opd F s) (opd F x) with
    | some M' => some (.unk, M')
    | none => none
  | .call c => match c.callee with
    | .builtin .append => match c.argTypes.toList with
      | [t, tx] => match c.args.toList.map (opd F) with
        | [s, x] => appendA E M t tx s x
        | _ => none
      | _ => none
    | .builtin .unsafeString => stringA E M F c
    | .builtin .delete => match c.argTypes[0]? with
      | some t => match c.args.toList with
        | [m, k] => match deleteA E.P M t (opd F m) (opd F k) with
          | some M' => some (.tuple [], M')
          | none => none
        | _ => none
      | none => none
    | _ => none
  | _ => none
theorem loudA_ok {E : Env} {base : Nat} {ρ : Place} {M M' : Mem} {w : World} (hc : Cons E base ρ M w) (hbase : base ≤ w.heap.size) {F : T AV} {n : Nat} {a : Act} (hf : FR ρ F n a) {o : Oper} {v : AV}
    (h : loudA E M F o = some (v, M')) : ∃ x w' ρ', ((execOp a.eval o).run E.P w = .ok (.value x) w' ∨ ((execOp a.eval o).run E.P w = .ok .skip w' ∧ x = undef)) ∧ VR ρ' v x ∧ Step E base ρ w M ρ' w' M' := by
  unfold loudA at h
  split at h
  · rename_i t p x ho
    split at h
    · rename_i M2 hM
      simp only [Option.some.injEq, Prod.mk.injEq] at h
      obtain ⟨rfl, rfl⟩ := h
      obtain ⟨w', h1, h2⟩ := storeA_ok hc (hf.eval p) (hf.eval x) hM
      refine ⟨undef, w', ρ, .inr ⟨?_, rfl⟩, by simp [VR], h2⟩
      unfold execOp
      simp [ho, h1]
    · cases h
  · rename_i it ho
    obtain ⟨x, w', h1, h2, h3⟩ := nextA_ok (t := o.type) hc (hf.eval it) h
    refine ⟨x, w', ρ, .inl ?_, h2, h3⟩
    unfold execOp
    simp [ho, h1]
  · rename_i it ho
    obtain ⟨x, w', h1, h2, h3⟩ := nextMapA_ok (t := o.type) hc (hf.eval it) h
    refine ⟨x, w', ρ, .inl ?_, h2, h3⟩
    unfold execOp
    simp [ho, h1]
  · rename_i t x ho
    obtain ⟨z, w', ρ', h1, h2, h3⟩ := rangeMapA_ok hc hbase (hf.eval x) h
    refine ⟨z, w', ρ', .inl ?_, h2, h3⟩
    unfold execOp
    simp [ho, h1]
  · rename_i it ho
    split at h
    · rename_i u hu
      simp only [Option.some.injEq, Prod.mk.injEq] at h
      obtain ⟨rfl, rfl⟩ := h
      obtain ⟨z, h1, h2⟩ := entryA_ok hc (hf.eval it) hu
      refine ⟨z, w, ρ, .inl ?_, h2, Step.refl hc⟩
      unfold execOp
      simp [ho, h1]
    · cases h
  · rename_i t m k x ho
    split at h
    · rename_i M2 hM
      simp only [Option.some.injEq, Prod.mk.injEq] at h
      obtain ⟨rfl, rfl⟩ := h
      obtain ⟨w', h1, h2⟩ := updateA_ok hc (hf.eval m) (hf.eval k) (hf.eval x) hM
      refine ⟨undef, w', ρ, .inr ⟨?_, rfl⟩, by simp [VR], h2⟩
      unfold execOp
      simp [ho, h1]
    · cases h
  · rename_i t m k x ho
    split at h
    · rename_i M2 hM
      simp only [Option.some.injEq, Prod.mk.injEq] at h
      obtain ⟨rfl, rfl⟩ := h
      obtain ⟨w', h1, h2⟩ := updateA_ok hc (hf.eval m) (hf.eval k) (hf.eval x) hM
      refine ⟨undef, w', ρ, .inr ⟨?_, rfl⟩, by simp [VR], h2⟩
      unfold execOp
      simp [ho, h1]
    · cases h
  · rename_i t m k ho
    obtain ⟨z, w', h1, h2, h3⟩ := mapEntryA_ok hc (hf.eval m) (hf.eval k) h
    refine ⟨z, w', ρ, .inl ?_, h2, h3⟩
    unfold execOp
    simp [ho, h1]
  · rename_i t m s x ho
    split at h
    · rename_i M2 hM
      simp only [Option.some.injEq, Prod.mk.injEq] at h
      obtain ⟨rfl, rfl⟩ := h
      obtain ⟨w', h1, h2⟩ := entryStoreA_ok (t := t) hc (hf.eval m) (hf.eval s) (hf.eval x) hM
      refine ⟨undef, w', ρ, .inr ⟨?_, rfl⟩, by simp [VR], h2⟩
      unfold execOp
      simp [ho, h1]
    · cases h
  · rename_i c ho
    split at h
    · rename_i hcal
      split at h
      · rename_i t tx ht
        have hat : c.argTypes = #[t, tx] := Array.ext' (by simpa using ht)
        split at h
        · rename_i s x hx
          have hargs := hf.evals c.args.toList
          rw [hx] at hargs
          simp only [VRs] at hargs
          obtain ⟨y, ys, h1, h2, y2, ys2, h3, h4, rfl⟩ := hargs
          subst h3
          obtain ⟨z, w', ρ', k1, k2, k3⟩ := appendA_ok (ty := o.type) hc hbase h2 h4 h
          have harr : c.args.map a.eval = #[y, y2] := Array.ext' (by rw [Array.toList_map, h1])
          obtain ⟨consts, hex⟩ := exec_builtin (ρ := a.eval) (P := E.P) ho hcal w
          refine ⟨z, w', ρ', .inl ?_, k2, k3⟩
          rw [hex, harr, hat]
          simp only [builtin, Sem.run_bind, k1, Result.andThen_ok, Sem.run_pure]
        · cases h
      · cases h
    · obtain ⟨x, w', h1, h2, h3⟩ := stringA_ok hc hf ho h
      exact ⟨x, w', ρ, .inl h1, h2, h3⟩
    · rename_i hcal
      split at h
      · rename_i t ht
        split at h
        · rename_i m k hx
          split at h
          · rename_i M2 hM
            simp only [Option.some.injEq, Prod.mk.injEq] at h
            obtain ⟨rfl, rfl⟩ := h
            obtain ⟨w', h1, h2⟩ := deleteA_ok (ty := o.type) hc ht (hf.eval m) (hf.eval k) hM
            have harr : c.args.map a.eval = #[a.eval m, a.eval k] := Array.ext' (by rw [Array.toList_map, hx]; rfl)
            obtain ⟨consts, hex⟩ := exec_builtin (ρ := a.eval) (P := E.P) ho hcal w
            refine ⟨.tuple #[], w', ρ, .inl ?_, by simp only [VR, VRs]; exact ⟨_, rfl, rfl⟩, h2⟩
            rw [hex, harr]
            simp only [builtin, Sem.run_bind, h1, Result.andThen_ok, Sem.run_pure]
          · cases h
        · cases h
      · cases h
    · cases h
  · cases h
def cloneA (E : Env) (M : Mem) (F : T AV) (o : Oper) : Option (AV × Mem) :=
  match o.op with
  | .call c => match c.callee with
    | .value (.func f) => match E.ext.get f with
      | some 11 => match c.args.toList.map (opd F) with
        | [.iface t (.mapp b)] => match M.bl.get b with
          | some (.map es cl) => some (.iface t (.mapp M.next), ⟨M.next + 1, M.bl.set M.next (.map es cl)⟩)
          | _ => none
        | _ => none
      | _ => none
    | _ => none
  | _ => none
def opA (E : Env) (M : Mem) (F : T AV) (o : Oper) : Option (AV × Mem) :=
  match quiet E M F o with
  | some v => some (v, M)
  | none => match madeA E F o with
    | some (blk, f) => some (f M.next, ⟨M.next + 1, M.bl.set M.next blk⟩)
    | none => match cloneA E M F o with
      | some r => some r
      | none => match E.opn o.op (opd F) with
        | some v => some (v, M)
        | none => loudA E M F o
theorem Cons.none {E : Env} {base : Nat} {ρ : Place} {M : Mem} {w : World} (hc : Cons E base ρ M w) : ρ M.next = none := by
  cases hq : ρ M.next with
  | none => rfl
  | some l => have := hc.bound _ _ hq; omega
theorem cloneA_ok {E : Env} (OK : E.OK) {base : Nat} {ρ : Place} {M M' : Mem} {w : World} (hc : Cons E base ρ M w) (hbase : base ≤ w.heap.size) {F : T AV} {n : Nat} {a : Act} (hf : FR ρ F n a) {o : Oper} {v : AV}
    (h : cloneA E M F o = some (v, M')) : ∃ x w' ρ', (execOp a.eval o).run E.P w = .ok (.value x) w' ∧ VR ρ' v x ∧ Step E base ρ w M ρ' w' M' := by
  unfold cloneA at h
  split at h
  · rename_i c ho
    split at h
    · rename_i f hcal
      split at h
      · rename_i hk
        split at h
        · rename_i t b hargs
          split at h
          · rename_i es cl hb
            simp only [Option.some.injEq, Prod.mk.injEq] at h
            obtain ⟨rfl, rfl⟩ := h
            have hv := hf.evals c.args.toList
            rw [hargs] at hv
            simp only [VRs] at hv
            obtain ⟨y, ys, h1, h2, rfl⟩ := hv
            simp only [VR] at h2
            obtain ⟨y', rfl, l, hl, rfl⟩ := h2
            obtain ⟨l', hl', h0, ents, a1, a2⟩ := hc.blk b _ hb
            rw [hl, Option.some.injEq] at hl'
            subst hl'
            have harr : c.args.map a.eval = #[.iface t (.map (some l.blk))] := Array.ext' (by simpa using h1)
            have hnone := hc.none
            have hget : (getObj l.blk).run E.P w = .ok (.map ents cl) w := by simp [getObj, Sem.run, a1]
            refine ⟨.iface t (.map (some w.heap.size)), w.alloc (.map ents cl), ρ.upd M.next ⟨w.heap.size, 0, 0, undef⟩, ?_, ?_,
              Step.push hc hbase hnone (Nat.le_succ _) (Nat.lt_succ_self _) (Nat.le_refl _) rfl (alloc_old w _).1 (alloc_old w _).2 ⟨rfl, ents, alloc_new w _, a2.mono (Place.le_upd hnone)⟩ rfl rfl rfl⟩
            · have hrun : (Extern.MapsClone.clone #[.iface t (.map (some l.blk))]).run E.P w = .ok (.iface t (.map (some w.heap.size))) (w.alloc (.map ents cl)) := by
                show ((getObj l.blk >>= fun o => match o with | .map entries clock => do pure (.iface t (.map (some (← newObj (.map entries clock))))) | _ => stuck "maps.clone: a map expected") : Sem Value).run E.P w = _
                simp [hget]
              rw [exec_func ho hcal rfl, OK.ext f 11 hk, harr]
              simp only [extSem, Sem.run_bind, hrun, Result.andThen_ok, Sem.run_pure]
            · simp only [VR]
              exact ⟨_, rfl, _, Place.upd_same _ _ _, rfl⟩
          · cases h
        · cases h
      · cases h
    · cases h
  · cases h
theorem opA_ok {E : Env} (OK : E.OK) {base : Nat} {ρ : Place} {M M' : Mem} {w : World} (hc : Cons E base ρ M w) (hbase : base ≤ w.heap.size) {F : T AV} {n : Nat} {a : Act} (hf : FR ρ F n a) {o : Oper} {v : AV}
    (h : opA E M F o = some (v, M')) : ∃ x w' ρ', ((execOp a.eval o).run E.P w = .ok (.value x) w' ∨ ((execOp a.eval o).run E.P w = .ok .skip w' ∧ x = undef)) ∧ VR ρ' v x ∧ Step E base ρ w M ρ' w' M' := by
  unfold opA at h
  split at h
  · rename_i u hu
    simp only [Option.some.injEq, Prod.mk.injEq] at h
    obtain ⟨rfl, rfl⟩ := h
    obtain ⟨x, h1, h2⟩ := quiet_ok OK hc hf hu
    exact ⟨x, w, ρ, .inl h1, h2, Step.refl hc⟩
  · split at h
    · rename_i blk f hm
      simp only [Option.some.injEq, Prod.mk.injEq] at h
      obtain ⟨rfl, rfl⟩ := h
      obtain ⟨x, w', ρ', h1, h2, h3⟩ := Step.made hc hbase (madeA_ok OK hf hm w) hc.none (Nat.le_succ _) (Nat.lt_succ_self _) (Nat.le_refl _)
      exact ⟨x, w', ρ', .inl h1, h2, h3⟩
    · split at h
      · rename_i r hr
        simp only [Option.some.injEq] at h
        subst h
        obtain ⟨x, w', ρ', h1, h2, h3⟩ := cloneA_ok OK hc hbase hf hr
        exact ⟨x, w', ρ', .inl h1, h2, h3⟩
      · split at h
        · rename_i u hu
          simp only [Option.some.injEq, Prod.mk.injEq] at h
          obtain ⟨rfl, rfl⟩ := h
          obtain ⟨x, w', h1, h2, h3, h4, h5, h6⟩ := OK.opn _ _ _ hu base ρ w a.eval hc.glob hc.sym hf.eval o rfl
          exact ⟨x, w', ρ, .inl h1, h2, Step.drawn hc h3 h4 h5 h6⟩
        · exact loudA_ok hc hbase hf h
def W (r : Option Nat) : Fence := { Fence.wide with round := r }
inductive Cal where
  | fn (f : FuncId)
  | yld (b : Nat)
abbrev AChain := List (AV × Bool)
inductive AEnd where
  | ret (v : AV)
  | pan (ch : AChain)
structure AD where
  f : FuncId
  args : List AV
  cap : List AV
  mark : Option Nat
abbrev CallF := Cal → List AV → Mem → Option (AEnd × Mem)
def CR (ρ : Place) : AChain → List PanicEntry → Prop
  | [], es => es = []
  | (v, b) :: r, es => ∃ x es', es = { v := x, recovered := b } :: es' ∧ VR ρ v x ∧ CR ρ r es'
theorem CR.mono {ρ ρ' : Place} (h : ρ.le ρ') : ∀ {a : AChain} {es : List PanicEntry}, CR ρ a es → CR ρ' a es
  | [], _, e => e
  | (v, b) :: r, es, e => by
    simp only [CR] at e ⊢
    obtain ⟨x, es', h1, h2, h3⟩ := e
    exact ⟨x, es', h1, h2.mono h, CR.mono h h3⟩
def DR1 (ρ : Place) (d : AD) (x : Deferred) : Prop :=
  match d.mark with
  | none => ∃ cap, x.target = .fn (.func d.f) cap ∧ VRs ρ d.cap cap.toList ∧ VRs ρ d.args x.args.toList
  | some b => ∃ l, ρ b = some l ∧ x.target = .collected l.blk
def DR (ρ : Place) : List AD → List Deferred → Prop
  | [], ds => ds = []
  | d :: r, ds => ∃ x ds', ds = x :: ds' ∧ DR1 ρ d x ∧ DR ρ r ds'
theorem DR1.mono {ρ ρ' : Place} (h : ρ.le ρ') {d : AD} {x : Deferred} (e : DR1 ρ d x) : DR1 ρ' d x := by
  unfold DR1 at e ⊢
  split at e
  · obtain ⟨cap, h1, h2, h3⟩ := e
    exact ⟨cap, h1, h2.mono h, h3.mono h⟩
  · obtain ⟨l, h1, h2⟩ := e
    exact ⟨l, h _ _ h1, h2⟩
theorem DR.mono {ρ ρ' : Place} (h : ρ.le ρ') : ∀ {a : List AD} {es : List Deferred}, DR ρ a es → DR ρ' a es
  | [], _, e => e
  | d :: r, es, e => by
    simp only [DR] at e ⊢
    obtain ⟨x, es', h1, h2, h3⟩ := e
    exact ⟨x, es', h1, h2.mono h, DR.mono h h3⟩
def EndR (ρ : Place) : AEnd → Ending → Prop
  | .ret v, .returned x => VR ρ v x
  | .pan ch, .panicked c => CR ρ ch c
  | _, _ => False
def CalOK (P : Program) (ρ : Place) (c : Cal) (vals : Array Value) (w : World) (R : Ending → World → Prop) : Prop :=
  match c with
  | .fn f => Calls P f vals w R
  | .yld b => ∀ l, ρ b = some l → ∃ fn tmps assign body, (Instr.yield l.blk vals).run P w = .ok (.round l.blk fn tmps assign body) w ∧ RoundIn Fence.wide 0 P l.blk fn tmps assign body w R
def SoundCall (E : Env) (base : Nat) (callF : CallF) : Prop :=
  ∀ c args M x M', callF c args M = some (x, M') → ∀ ρ w vals, Cons E base ρ M w → base ≤ w.heap.size → VRs ρ args vals →
    CalOK E.P ρ c vals.toArray w fun e w' => ∃ ρ', Step E base ρ w M ρ' w' M' ∧ EndR ρ' x e
inductive ORes where
  | val (v : AV) (M : Mem)
  | pan (ch : AChain) (M : Mem)
  | dfr (d : AD)
def resOf : Option (AEnd × Mem) → Option ORes
  | some (.ret v, M) => some (.val v M)
  | some (.pan ch, M) => some (.pan ch M)
  | none => none
def closA : AV → Option (FuncId × List AV × List AV)
  | .func (.func f) first cap => some (f, first, cap)
  | .lit (.func (.func f) first cap) => some (f, first.toList.map .lit, cap.toList.map .lit)
  | _ => none
theorem closA_ok {ρ : Place} {v : AV} {x : Value} {f : FuncId} {first cap : List AV} (hv : VR ρ v x) (h : closA v = some (f, first, cap)) :
    ∃ fs cs, x = .func (.func f) fs cs ∧ VRs ρ first fs.toList ∧ VRs ρ cap cs.toList := by
  unfold closA at h
  split at h
  · simp only [Option.some.injEq, Prod.mk.injEq] at h
    obtain ⟨rfl, rfl, rfl⟩ := h
    simp only [VR] at hv
    exact hv
  · simp only [Option.some.injEq, Prod.mk.injEq] at h
    obtain ⟨rfl, rfl, rfl⟩ := h
    simp only [VR] at hv
    subst hv
    exact ⟨_, _, rfl, VRs.lits _, VRs.lits _⟩
  · cases h
def calA : AV → Option (Cal × List AV × List AV)
  | .func (.func f) first cap => some (.fn f, first, cap)
  | .lit (.func (.func f) first cap) => some (.fn f, first.toList.map .lit, cap.toList.map .lit)
  | .yld b => some (.yld b, [], [])
  | _ => none
theorem calA_ok {ρ : Place} {v : AV} {x : Value} {c : Cal} {first cap : List AV} (hv : VR ρ v x) (h : calA v = some (c, first, cap)) :
    ∃ fs cs, VRs ρ first fs.toList ∧ VRs ρ cap cs.toList ∧ (match c with
      | .fn f => x = .func (.func f) fs cs
      | .yld b => ∃ l, ρ b = some l ∧ x = .func (.yield l.blk) fs cs ∧ fs = #[] ∧ cs = #[]) := by
  unfold calA at h
  split at h
  · simp only [Option.some.injEq, Prod.mk.injEq] at h
    obtain ⟨rfl, rfl, rfl⟩ := h
    simp only [VR] at hv
    obtain ⟨fs, cs, e, h1, h2⟩ := hv
    exact ⟨fs, cs, h1, h2, e⟩
  · simp only [Option.some.injEq, Prod.mk.injEq] at h
    obtain ⟨rfl, rfl, rfl⟩ := h
    simp only [VR] at hv
    subst hv
    exact ⟨_, _, VRs.lits _, VRs.lits _, rfl⟩
  · simp only [Option.some.injEq, Prod.mk.injEq] at h
    obtain ⟨rfl, rfl, rfl⟩ := h
    simp only [VR] at hv
    obtain ⟨l, h1, h2⟩ := hv
    exact ⟨#[], #[], by simp [VRs], by simp [VRs], l, h1, h2, rfl, rfl⟩
  · cases h
def toRes : Option (AV × Mem) → Option ORes
  | some (v, M) => some (.val v M)
  | none => none
def opC (E : Env) (callF : CallF) (M : Mem) (F : T AV) (o : Oper) : Option ORes :=
  match o.op with
  | .panic x => match opd F x with
    | .iface t v => some (.pan [(.iface t v, false)] M)
    | .lit (.iface t v) => some (.pan [(.lit (.iface t v), false)] M)
    | _ => none
  | .defer c => match c.callee with
    | .value x => match closA (opd F x) with
      | some (f, first, cap) => some (.dfr ⟨f, first ++ c.args.toList.map (opd F), cap, none⟩)
      | none => none
    | _ => none
  | .call c => match c.callee with
    | .builtin _ => toRes (opA E M F o)
    | .value (.func f) => match E.ext.get f with
      | some _ => toRes (opA E M F o)
      | none => resOf (callF (.fn f) (c.args.toList.map (opd F)) M)
    | .value x => match calA (opd F x) with
      | some (f, first, cap) => resOf (callF f (first ++ c.args.toList.map (opd F) ++ cap) M)
      | none => none
    | .invoke .. => none
  | _ => toRes (opA E M F o)
def OPost (E : Env) (base : Nat) (ρ : Place) (w : World) (M : Mem) (o : Oper) (a : Act) (K : Act → World → Prop) (Q : Exit → Act → World → Prop) : ORes → Prop
  | .val v M' => ∀ ρ' x w', Step E base ρ w M ρ' w' M' → VR ρ' v x → K (a.put o.dst x) w'
  | .pan ch M' => ∀ ρ' chain w', Step E base ρ w M ρ' w' M' → CR ρ' ch chain → Q (.panic chain) a w'
  | .dfr d => ∀ dd, DR1 ρ d dd → K ({ a with defers := dd :: a.defers }.put o.dst undef) w
def Up (P : Program) (o : Oper) (a : Act) (K : Act → World → Prop) (Q : Exit → Act → World → Prop) (w : World) (ry : Prop) : Prop :=
  o.uponIn Fence.wide 0 P a K Q ((execOp a.eval o).run P w) ∧ (¬ ry → ∀ l f t as bd w', (execOp a.eval o).run P w ≠ .ok (.round l f t as bd) w')
theorem upon_W {P : Program} {o : Oper} {a : Act} {K : Act → World → Prop} {Q : Exit → Act → World → Prop} {r : Option Nat} {x : Result Next} (h : o.uponIn Fence.wide 0 P a K Q x) : o.uponIn (W r) 0 P a K Q x := by
  cases x with
  | ok n w' => cases n <;> exact h
  | halt y w' => cases y <;> exact h
theorem Up.wpIn {P : Program} {o : Oper} {a : Act} {K : Act → World → Prop} {Q : Exit → Act → World → Prop} {w : World} {ry : Prop} {r : Option Nat} (h : Up P o a K Q w ry) (hd : ∀ c, o.op = .defer c → r = none) : o.wpIn (W r) 0 P a w K Q := by
  refine ⟨fun _ _ => trivial, ?_⟩
  have e : o.semAt (W r).round a.eval = execOp a.eval o := by
    cases r with
    | none => rfl
    | some l => exact Oper.semAt_eq _ _ _ fun c hc => by have := hd c hc; cases this
  rw [e]
  exact upon_W h.1
theorem Up.wp {P : Program} {o : Oper} {a : Act} {K : Act → World → Prop} {Q : Exit → Act → World → Prop} {w : World} {ry : Prop} (h : Up P o a K Q w ry) (hn : ¬ ry) : o.wp P a w K Q := by
  obtain ⟨h1, h2⟩ := h
  have h2 := h2 hn
  unfold Oper.wp
  generalize (execOp a.eval o).run P w = x at h1 h2
  cases x with
  | ok n w' => cases n with
    | enter f args => exact callsIn_wide.1 h1.2
    | row row args => exact fun c cs => let ⟨v, w'', k1, k2⟩ := h1.2 c cs (room_wide _); ⟨v, w'', k1, stepsIn_wide.1 k2⟩
    | round => exact (h2 _ _ _ _ _ _ rfl).elim
    | _ => exact h1
  | halt y w' => cases y <;> exact h1
theorem Up.value {P : Program} {o : Oper} {a : Act} {K : Act → World → Prop} {Q : Exit → Act → World → Prop} {w w' : World} {ry : Prop} {x : Value} (h : (execOp a.eval o).run P w = .ok (.value x) w') (hk : K (a.put o.dst x) w') : Up P o a K Q w ry := by
  unfold Up
  rw [h]
  exact ⟨hk, fun _ _ _ _ _ _ _ e => by cases e⟩
theorem Up.skip {P : Program} {o : Oper} {a : Act} {K : Act → World → Prop} {Q : Exit → Act → World → Prop} {w w' : World} {ry : Prop} (h : (execOp a.eval o).run P w = .ok .skip w') (hk : K (a.put o.dst undef) w') : Up P o a K Q w ry := by
  unfold Up
  rw [h]
  exact ⟨hk, fun _ _ _ _ _ _ _ e => by cases e⟩
theorem Up.halted {P : Program} {o : Oper} {a : Act} {K : Act → World → Prop} {Q : Exit → Act → World → Prop} {w w' : World} {ry : Prop} {x : Value} (h : (execOp a.eval o).run P w = .halt (.panic x) w') (hk : Q (.panic [{ v := x, recovered := false }]) a w') : Up P o a K Q w ry := by
  unfold Up
  rw [h]
  exact ⟨hk, fun _ _ _ _ _ _ _ e => by cases e⟩
theorem Up.deferred {P : Program} {o : Oper} {a : Act} {K : Act → World → Prop} {Q : Exit → Act → World → Prop} {w w' : World} {ry : Prop} {d : Deferred} (h : (execOp a.eval o).run P w = .ok (.defer d) w') (hk : K ({ a with defers := d :: a.defers }.put o.dst undef) w') : Up P o a K Q w ry := by
  unfold Up
  rw [h]
  exact ⟨hk, fun _ _ _ _ _ _ _ e => by cases e⟩
theorem defer_run {P : Program} {ρ : Operand → Value} {o : Oper} {c : Call} (ho : o.op = .defer c) {w w' : World} {x : Value} (h : (execOp ρ o).run P w = .ok (.value x) w') : False := by
  unfold execOp at h
  simp only [ho, Sem.run_bind] at h
  generalize (resolve ρ c o.type).run P w = y at h
  cases y with
  | ok d w1 => simp at h
  | halt z w1 => simp at h
theorem wpIn_value {P : Program} {o : Oper} {a : Act} {K : Act → World → Prop} {Q : Exit → Act → World → Prop} {w w' : World} {r : Option Nat} {x : Value} (h : (execOp a.eval o).run P w = .ok (.value x) w') (hk : K (a.put o.dst x) w') : o.wpIn (W r) 0 P a w K Q :=
  Up.wpIn (ry := False) (Up.value h hk) fun _ hc => (defer_run hc h).elim
theorem toRes_ok {E : Env} (OK : E.OK) {base : Nat} {ρ : Place} {M : Mem} {w : World} (hc : Cons E base ρ M w) (hbase : base ≤ w.heap.size) {F : T AV} {n : Nat} {a : Act} (hf : FR ρ F n a) {o : Oper} {r : ORes} {ry : Prop}
    (h : toRes (opA E M F o) = some r) {K : Act → World → Prop} {Q : Exit → Act → World → Prop} (hp : OPost E base ρ w M o a K Q r) : Up E.P o a K Q w ry := by
  unfold toRes at h
  split at h
  · rename_i v M' hv
    simp only [Option.some.injEq] at h
    subst h
    obtain ⟨x, w', ρ', h1, h2, h3⟩ := opA_ok OK hc hbase hf hv
    have hk := hp ρ' x w' h3 h2
    rcases h1 with h1 | ⟨h1, rfl⟩
    · exact Up.value h1 hk
    · exact Up.skip h1 hk
  · cases h
def Yields1 (callF : CallF) : Prop := ∃ b args M x, callF (.yld b) args M = some x
theorem call_upon {E : Env} {base : Nat} {callF : CallF} (hs : SoundCall E base callF) {ρ : Place} {M : Mem} {w : World} (hc : Cons E base ρ M w) (hbase : base ≤ w.heap.size) {a : Act} {o : Oper} {r : ORes}
    {f : Cal} {args : List AV} {vals : Array Value} (hargs : VRs ρ args vals.toList) (h : resOf (callF f args M) = some r) {K : Act → World → Prop} {Q : Exit → Act → World → Prop} (hp : OPost E base ρ w M o a K Q r)
    (hrun : match f with
      | .fn f => (execOp a.eval o).run E.P w = .ok (.enter f vals) w
      | .yld b => ∃ l, ρ b = some l ∧ (execOp a.eval o).run E.P w = (Instr.yield l.blk vals).run E.P w) : Up E.P o a K Q w (Yields1 callF) := by
  have hdep : Fence.wide.depth.isSome = true → 1 ≤ 0 := fun h => by simp [Fence.wide] at h
  have hgo : ∃ x M', callF f args M = some (x, M') ∧ ∀ e w', (∃ ρ', Step E base ρ w M ρ' w' M' ∧ EndR ρ' x e) → (match e with
      | .returned v => K (a.put o.dst v) w'
      | .panicked chain => Q (.panic chain) a w'
      | .outgrown => LetsOut Q) := by
    unfold resOf at h
    split at h
    · rename_i v M' hv
      simp only [Option.some.injEq] at h
      subst h
      refine ⟨_, _, hv, fun e w' he => ?_⟩
      obtain ⟨ρ', h1, h2⟩ := he
      cases e with
      | returned x => exact hp ρ' x w' h1 h2
      | panicked c => exact h2.elim
      | outgrown => exact h2.elim
    · rename_i ch M' hv
      simp only [Option.some.injEq] at h
      subst h
      refine ⟨_, _, hv, fun e w' he => ?_⟩
      obtain ⟨ρ', h1, h2⟩ := he
      cases e with
      | returned x => exact h2.elim
      | panicked c => exact hp ρ' c w' h1 h2
      | outgrown => exact h2.elim
    · cases h
  obtain ⟨x, M', hv, hpost⟩ := hgo
  have hS := hs f args M _ M' hv ρ w vals.toList hc hbase hargs
  rw [Array.toArray_toList] at hS
  cases f with
  | fn f =>
    simp only [] at hrun
    unfold Up
    rw [hrun]
    refine ⟨?_, fun _ _ _ _ _ _ _ e => by cases e⟩
    rw [Oper.uponIn_enter]
    refine ⟨hdep, callsIn_wide.2 (Calls.mono hS fun e w' he => ?_)⟩
    have := hpost e w' he
    cases e <;> exact this
  | yld b =>
    simp only [] at hrun
    obtain ⟨l, hl, hrun⟩ := hrun
    obtain ⟨fn, tmps, assign, body, h1, h2⟩ := hS l hl
    unfold Up
    rw [hrun, h1]
    refine ⟨?_, fun hn => absurd ⟨b, args, M, _, hv⟩ hn⟩
    rw [Oper.uponIn_round]
    refine ⟨hdep, RoundIn.mono h2 fun e w' he => ?_⟩
    have := hpost e w' he
    cases e <;> exact this
theorem opC_ok {E : Env} (OK : E.OK) {base : Nat} {callF : CallF} (hs : SoundCall E base callF) (hent : ∀ f args M x, callF (.fn f) args M = some x → ∃ fn, E.fn.get f = some fn)
    {ρ : Place} {M : Mem} {w : World} (hc : Cons E base ρ M w) (hbase : base ≤ w.heap.size) {F : T AV} {n : Nat} {a : Act} (hf : FR ρ F n a) {o : Oper} {r : ORes}
    (h : opC E callF M F o = some r) {K : Act → World → Prop} {Q : Exit → Act → World → Prop} (hp : OPost E base ρ w M o a K Q r) : Up E.P o a K Q w (Yields1 callF) := by
  have entered : ∀ f args r, resOf (callF (.fn f) args M) = some r → ∀ vals w, (callFunc f vals).run E.P w = .ok (.enter f vals) w := by
    intro f args r hr vals w
    have : ∃ x, callF (.fn f) args M = some x := by
      unfold resOf at hr
      split at hr
      · exact ⟨_, by assumption⟩
      · exact ⟨_, by assumption⟩
      · cases hr
    obtain ⟨x, hx⟩ := this
    obtain ⟨fn, hfn⟩ := hent f args M x hx
    exact (OK.fn f fn hfn).2 vals w
  unfold opC at h
  split at h
  · -- panic
    rename_i x ho
    have hv := hf.eval x
    split at h
    · rename_i t v hx
      simp only [Option.some.injEq] at h
      subst h
      rw [hx] at hv
      have hv0 := hv
      simp only [VR] at hv
      obtain ⟨y, e, hy⟩ := hv
      have := hp ρ [{ v := a.eval x, recovered := false }] w (Step.refl hc) (by simp only [CR]; exact ⟨_, _, rfl, hv0, rfl⟩)
      rw [e] at this
      refine Up.halted ?_ this
      unfold execOp
      simp only [ho, e, Instr.panic, goPanic, Sem.run_bind, Sem.run_halt, Result.andThen_halt]
    · rename_i t v hx
      simp only [Option.some.injEq] at h
      subst h
      rw [hx] at hv
      have hv0 := hv
      simp only [VR] at hv
      have := hp ρ [{ v := a.eval x, recovered := false }] w (Step.refl hc) (by simp only [CR]; exact ⟨_, _, rfl, hv0, rfl⟩)
      rw [hv] at this
      refine Up.halted ?_ this
      unfold execOp
      simp only [ho, hv, Instr.panic, goPanic, Sem.run_bind, Sem.run_halt, Result.andThen_halt]
    · cases h
  · -- defer
    rename_i c ho
    split at h
    · rename_i x hcal
      split at h
      · rename_i f first cap hx
        simp only [Option.some.injEq] at h
        subst h
        obtain ⟨fs, cs, e, h1, h2⟩ := closA_ok (hf.eval x) hx
        have := hp { target := .fn (.func f) cs, args := fs ++ c.args.map a.eval } ⟨cs, rfl, h2, by simpa using h1.append (hf.evals c.args.toList)⟩
        refine Up.deferred ?_ this
        unfold execOp
        simp only [ho, resolve, hcal, e, Deferred.ofValue, Sem.run_bind, Sem.run_pure, Result.andThen_ok]
      · cases h
    · cases h
  · -- call
    rename_i c ho
    split at h
    · exact toRes_ok OK hc hbase hf h hp
    · rename_i f hcal
      split at h
      · exact toRes_ok OK hc hbase hf h hp
      · refine call_upon hs hc hbase (f := .fn f) (vals := c.args.map a.eval) (by simpa using hf.evals c.args.toList) h hp ?_
        rw [exec_func ho hcal rfl]
        exact entered f _ _ h _ w
    · rename_i x hne hcal
      split at h
      · rename_i f first cap hx
        obtain ⟨fs, cs, h1, h2, e⟩ := calA_ok (hf.eval x) hx
        refine call_upon hs hc hbase (f := f) (vals := fs ++ c.args.map a.eval ++ cs) (by simpa using (h1.append ((hf.evals c.args.toList).append h2))) (by simpa [List.append_assoc] using h) hp ?_
        cases f with
        | fn f =>
          simp only [] at e
          have hent' := entered f _ _ h (fs ++ c.args.map a.eval ++ cs) w
          unfold execOp
          simp only [ho, resolve, hcal, e, Deferred.ofValue, Sem.run_bind, Sem.run_pure, Result.andThen_ok, invoke]
          exact hent'
        | yld b =>
          simp only [] at e
          obtain ⟨l, hl, e, rfl, rfl⟩ := e
          refine ⟨l, hl, ?_⟩
          unfold execOp
          simp only [ho, resolve, hcal, e, Deferred.ofValue, Sem.run_bind, Sem.run_pure, Result.andThen_ok, invoke]
          simp
      · cases h
    · cases h
  · exact toRes_ok OK hc hbase hf h hp
theorem opC_val {E : Env} {callF : CallF} {M : Mem} {F : T AV} {o : Oper} {v : AV} {M' : Mem} (h : opC E callF M F o = some (.val v M')) : ∀ c, o.op ≠ .defer c := by
  intro c ho
  unfold opC at h
  rw [ho] at h
  simp only [] at h
  split at h
  · split at h <;> simp at h
  · cases h
theorem opC_pan {E : Env} {callF : CallF} {M : Mem} {F : T AV} {o : Oper} {ch : AChain} {M' : Mem} (h : opC E callF M F o = some (.pan ch M')) : ∀ c, o.op ≠ .defer c := by
  intro c ho
  unfold opC at h
  rw [ho] at h
  simp only [] at h
  split at h
  · split at h <;> simp at h
  · cases h
structure St where
  F : T AV
  D : List AD
  M : Mem
  rd : Option Nat
def RR (ρ : Place) : Option Nat → Option Nat → Prop
  | none, none => True
  | some b, some l => ∃ lc, ρ b = some lc ∧ lc.blk = l
  | _, _ => False
theorem RR.mono {ρ ρ' : Place} (h : ρ.le ρ') {x y : Option Nat} (e : RR ρ x y) : RR ρ' x y := by
  cases x <;> cases y <;> first | exact e | (obtain ⟨lc, h1, h2⟩ := e; exact ⟨lc, h _ _ h1, h2⟩)
inductive AExit where
  | normal
  | exit (id : Nat)
  | goto (l : Nat)
  | ret
  | panic (ch : AChain)
def XR (ρ : Place) : AExit → Exit → Prop
  | .normal, .normal => True
  | .exit i, .exit j => i = j
  | .goto i, .goto j => i = j
  | .ret, .ret => True
  | .panic ch, .panic c => CR ρ ch c
  | _, _ => False
structure SR (E : Env) (base : Nat) (rd : Option Nat) (ρ : Place) (s : St) (n : Nat) (a : Act) (w : World) : Prop where
  cons : Cons E base ρ s.M w
  fr : FR ρ s.F n a
  dr : DR ρ s.D a.defers
  base : base ≤ w.heap.size
  rd : RR ρ s.rd rd
def wantA (ops : Array Oper) (F : T AV) (o : Oper) : Option Bool :=
  match o.guard with
  | none => some true
  | some (j, want) => match ops[j]? with
    | some p => match p.dst with
      | some t => match F.get t with
        | some (.lit (.bool b)) => some (b == want)
        | some (.lit (.tuple _)) => some false
        | _ => none
      | none => none
    | none => none
theorem wantA_ok {ρ : Place} {ops : Array Oper} {F : T AV} {n : Nat} {a : Act} (hf : FR ρ F n a) {o : Oper} {b : Bool} (h : wantA ops F o = some b) : Region.wanted o (yielded ops a.tmps) = b := by
  unfold wantA at h
  unfold Region.wanted
  split at h
  · rename_i hg
    simp only [Option.some.injEq] at h
    subst h
    simp only [hg]
  · rename_i j want hg
    simp only [hg]
    split at h
    · rename_i p hp
      split at h
      · rename_i t ht
        have hv := hf.get t
        simp only [opd] at hv
        have hy : ∀ v, a.tmps.getD t undef = v → v ≠ undef → a.tmps[t]? = some v := by
          intro v e hne
          rw [Array.getD_eq_getD_getElem?] at e
          cases hq : a.tmps[t]? with
          | none => rw [hq] at e; exact absurd e.symm (by simpa using hne)
          | some u => rw [hq] at e; simpa using e
        split at h
        · rename_i c hF
          simp only [Option.some.injEq] at h
          rw [hF] at hv
          simp only [VR] at hv
          have := hy _ hv (by simp [undef])
          subst h
          simp only [yielded, hp, Option.bind_some, ht, this]
          cases c <;> cases want <;> rfl
        · rename_i vs hF
          simp only [Option.some.injEq] at h
          rw [hF] at hv
          simp only [VR] at hv
          subst h
          have : yielded ops a.tmps j = none := by
            simp only [yielded, hp, Option.bind_some, ht]
            rw [Array.getD_eq_getD_getElem?] at hv
            cases hq : a.tmps[t]? with
            | none => rfl
            | some u => rw [hq] at hv; simp at hv; subst hv; rfl
          rw [this]
          cases want <;> rfl
        · cases h
      · cases h
    · cases h
def opsA (E : Env) (callF : CallF) (n : Nat) (ops : Array Oper) : List Nat → St → Option (AExit × St)
  | [], s => some (.normal, s)
  | i :: r, s => match ops[i]? with
    | none => none
    | some o => match wantA ops s.F o with
      | none => none
      | some false => match put s.F n o.dst (.lit undef) with
        | some F' => opsA E callF n ops r { s with F := F' }
        | none => none
      | some true => match opC E callF s.M s.F o with
        | none => none
        | some (.val v M') => match put s.F n o.dst v with
          | some F' => opsA E callF n ops r { s with F := F', M := M' }
          | none => none
        | some (.pan ch M') => some (.panic ch, { s with M := M' })
        | some (.dfr d) => match s.rd with
          | some _ => none
          | none => match put s.F n o.dst (.lit undef) with
            | some F' => opsA E callF n ops r { s with F := F', D := d :: s.D }
            | none => none
def Behind (E : Env) (base : Nat) (rd : Option Nat) (ρ : Place) (w : World) (M : Mem) (n : Nat) (x : AExit) (s' : St) (Q : Exit → Act → World → Prop) : Prop :=
  ∀ ρ' a' w' e, Step E base ρ w M ρ' w' s'.M → SR E base rd ρ' s' n a' w' → XR ρ' x e → Q e a' w'
theorem Behind.step {E : Env} {base : Nat} {rd : Option Nat} {ρ ρ' : Place} {w w' : World} {M M' : Mem} {n : Nat} {x : AExit} {s' : St} {Q : Exit → Act → World → Prop} (h : Behind E base rd ρ w M n x s' Q)
    (k : Step E base ρ w M ρ' w' M') : Behind E base rd ρ' w' M' n x s' Q :=
  fun _ a'' w'' e h1 h2 h3 => h _ a'' w'' e (k.trans h1) h2 h3
theorem put_defers (a : Act) (dst : Option Tmp) (v : Value) : (a.put dst v).defers = a.defers := by cases dst <;> rfl
theorem opsA_ok {E : Env} (OK : E.OK) {base : Nat} {rd : Option Nat} {callF : CallF} (hs : SoundCall E base callF) (hent : ∀ f args M x, callF (.fn f) args M = some x → ∃ fn, E.fn.get f = some fn) {n : Nat} {ops : Array Oper}
    {Q : Exit → Act → World → Prop} : ∀ (l : List Nat) (s : St) (x : AExit) (s' : St), opsA E callF n ops l s = some (x, s') → ∀ (ρ : Place) (a : Act) (w : World), SR E base rd ρ s n a w →
      Behind E base rd ρ w s.M n x s' Q → wpOpsIn (W rd) 0 E.P ops Q l a w
  | [], s, x, s', h, ρ, a, w, hr, hb => by
    simp only [opsA, Option.some.injEq, Prod.mk.injEq] at h
    obtain ⟨rfl, rfl⟩ := h
    exact hb ρ a w .normal (Step.refl hr.cons) hr trivial
  | i :: r, s, x, s', h, ρ, a, w, hr, hb => by
    simp only [opsA] at h
    split at h
    · cases h
    · rename_i o ho
      simp only [wpOpsIn, ho]
      split at h
      · cases h
      · rename_i hw
        rw [wantA_ok hr.fr hw]
        simp only [Bool.false_eq_true, if_false]
        split at h
        · rename_i F' hF
          exact ⟨fun _ _ => trivial, opsA_ok OK hs hent r _ x s' h ρ _ w ⟨hr.cons, hr.fr.put (by simp [VR]) hF, by rw [put_defers]; exact hr.dr, hr.base, hr.rd⟩ hb⟩
        · cases h
      · rename_i hw
        rw [wantA_ok hr.fr hw]
        simp only [if_true]
        split at h
        · cases h
        · rename_i v M' hv
          split at h
          · rename_i F' hF
            refine Up.wpIn (opC_ok OK hs hent hr.cons hr.base hr.fr hv fun ρ' y w' h1 h2 => ?_) fun c hc => absurd hc (opC_val hv c)
            exact opsA_ok OK hs hent r _ x s' h ρ' _ w' ⟨h1.cons, (hr.fr.mono h1.ext).put h2 hF, by rw [put_defers]; exact hr.dr.mono h1.ext, Nat.le_trans hr.base h1.size, hr.rd.mono h1.ext⟩ (hb.step h1)
          · cases h
        · rename_i ch M' hv
          simp only [Option.some.injEq, Prod.mk.injEq] at h
          obtain ⟨rfl, rfl⟩ := h
          refine Up.wpIn (opC_ok OK hs hent hr.cons hr.base hr.fr hv fun ρ' chain w' h1 h2 => ?_) fun c hc => absurd hc (opC_pan hv c)
          exact hb ρ' a w' (.panic chain) h1 ⟨h1.cons, hr.fr.mono h1.ext, hr.dr.mono h1.ext, Nat.le_trans hr.base h1.size, hr.rd.mono h1.ext⟩ h2
        · rename_i d hv
          split at h
          · cases h
          · rename_i hrd
            split at h
            · rename_i F' hF
              have hnone : rd = none := by
                have := hr.rd
                rw [hrd] at this
                cases rd with
                | none => rfl
                | some l => exact this.elim
              refine Up.wpIn (opC_ok OK hs hent hr.cons hr.base hr.fr hv fun dd h1 => ?_) fun _ _ => hnone
              have hfr : FR ρ s.F n { a with defers := dd :: a.defers } := ⟨hr.fr.size, hr.fr.get⟩
              refine opsA_ok OK hs hent r _ x s' h ρ _ w ⟨hr.cons, hfr.put (by simp [VR]) hF, ?_, hr.base, hr.rd⟩ hb
              rw [put_defers]
              exact ⟨dd, a.defers, rfl, h1, hr.dr⟩
            · cases h
def preds (o : Oper) : List Nat := (o.after.toList.filter fun e => Region.binds .any e).map (·.on)
def bitsFold (bt : T Nat) : List Nat → Nat → Nat
  | [], acc => acc
  | p :: r, acc => bitsFold bt r (acc ||| (2 ^ p) ||| (match bt.get p with | some b => b | none => 0))
def bitsGo : List Oper → Nat → T Nat → T Nat
  | [], _, bt => bt
  | o :: r, i, bt => bitsGo r (i + 1) (bt.set i (bitsFold bt (preds o) 0))
def bitsOf (ops : Array Oper) : T Nat := bitsGo ops.toList 0 .leaf
def ahead (bt : T Nat) (j i : Nat) : Bool :=
  match bt.get i with
  | some b => b.testBit j
  | none => false
inductive Reach (ops : Array Oper) : Nat → Nat → Prop
  | one {p i : Nat} {o : Oper} : ops[i]? = some o → p ∈ preds o → Reach ops p i
  | step {j p i : Nat} {o : Oper} : Reach ops j p → ops[i]? = some o → p ∈ preds o → Reach ops j i
theorem bitsFold_ok {bt : T Nat} : ∀ (l : List Nat) (acc j : Nat), (bitsFold bt l acc).testBit j = true → acc.testBit j = true ∨ ∃ p ∈ l, j = p ∨ ∃ b, bt.get p = some b ∧ b.testBit j = true
  | [], acc, j, h => .inl h
  | p :: r, acc, j, h => by
    simp only [bitsFold] at h
    rcases bitsFold_ok r _ j h with h1 | ⟨q, hq, h1⟩
    · rw [Nat.testBit_or, Nat.testBit_or] at h1
      simp only [Bool.or_eq_true] at h1
      rcases h1 with (h1 | h1) | h1
      · exact .inl h1
      · rw [Nat.testBit_two_pow] at h1
        exact .inr ⟨p, by simp, .inl (of_decide_eq_true h1).symm⟩
      · refine .inr ⟨p, by simp, .inr ?_⟩
        split at h1
        · rename_i b hb; exact ⟨b, hb, h1⟩
        · simp at h1
    · exact .inr ⟨q, by simp [hq], h1⟩
theorem bitsGo_ok {ops : Array Oper} : ∀ (l : List Oper) (i : Nat) (bt : T Nat), (∀ k, l[k]? = ops.toList[i + k]?) → (∀ k b j, bt.get k = some b → b.testBit j = true → Reach ops j k) →
    ∀ k b j, (bitsGo l i bt).get k = some b → b.testBit j = true → Reach ops j k
  | [], _, _, _, h => h
  | o :: r, i, bt, hl, h => by
    simp only [bitsGo]
    refine bitsGo_ok r (i + 1) _ (fun k => by have := hl (k + 1); simpa [Nat.add_assoc, Nat.add_comm 1 k] using this) fun k b j hk hj => ?_
    rw [T.get_set] at hk
    split at hk
    · rename_i e
      subst e
      simp only [Option.some.injEq] at hk
      subst hk
      have ho : ops[k]? = some o := by have := hl 0; simpa using this.symm
      rcases bitsFold_ok _ _ _ hj with h1 | ⟨p, hp, h1⟩
      · simp at h1
      · rcases h1 with rfl | ⟨b, hb, hbj⟩
        · exact .one ho hp
        · exact .step (h p b j hb hbj) ho hp
    · exact h k b j hk hj
theorem ahead_ok {ops : Array Oper} {j i : Nat} (h : ahead (bitsOf ops) j i = true) : Reach ops j i := by
  unfold ahead at h
  split at h
  · rename_i b hb
    exact bitsGo_ok ops.toList 0 .leaf (fun k => by simp) (fun k b j hk => by simp at hk) i b j hb h
  · cases h
def Closed (ops : Array Oper) (D : Nat → Prop) : Prop := ∀ i o, D i → ops[i]? = some o → ∀ p ∈ preds o, D p
theorem Reach.mem {ops : Array Oper} {D : Nat → Prop} (hD : Closed ops D) {j i : Nat} (h : Reach ops j i) : (∀ o, ops[i]? = some o → ∀ p ∈ preds o, D p) → D j := by
  induction h with
  | one ho hp => exact fun k => k _ ho _ hp
  | step _ ho hp ih => exact fun k => ih fun o' ho' q hq => hD _ o' (k _ ho _ hp) ho' q hq
def tmpsIn : List Operand → List Tmp
  | [] => []
  | .tmp t :: r => t :: tmpsIn r
  | _ :: r => tmpsIn r
def looks (ops : Array Oper) (o : Oper) : List Tmp :=
  match o.guard with
  | none => tmpsIn o.op.operands.toList
  | some (j, _) => match ops[j]? with
    | some p => match p.dst with
      | some t => t :: tmpsIn o.op.operands.toList
      | none => tmpsIn o.op.operands.toList
    | none => tmpsIn o.op.operands.toList
def restrict (F : T AV) : List Tmp → T AV
  | [] => .leaf
  | t :: r => match F.get t with
    | some v => (restrict F r).set t v
    | none => restrict F r
theorem restrict_get (F : T AV) : ∀ (l : List Tmp) (t : Tmp), (restrict F l).get t = none ∨ (t ∈ l ∧ (restrict F l).get t = F.get t)
  | [], t => by simp [restrict]
  | u :: r, t => by
    simp only [restrict]
    split
    · rename_i v hv
      rw [T.get_set]
      by_cases e : t = u
      · subst e
        rw [if_pos rfl, hv]
        exact .inr ⟨by simp, rfl⟩
      · rw [if_neg e]
        rcases restrict_get F r t with h | ⟨h1, h2⟩
        · exact .inl h
        · exact .inr ⟨by simp [h1], h2⟩
    · rcases restrict_get F r t with h | ⟨h1, h2⟩
      · exact .inl h
      · exact .inr ⟨by simp [h1], h2⟩
inductive What where
  | off
  | quiet
  | made (blk : AB)
  | loud (post : Mem)
  | dead
structure Rec where
  F : T AV
  v : AV
  w : What
  st : Option Nat
inductive DFin where
  | norm (F : T AV) (M : Mem)
  | pan (ch : AChain) (i : Nat) (M : Mem)
def addAll (id0 : Nat) (M : Mem) : List (Nat × AB) → Mem
  | [] => M
  | (i, x) :: r => ⟨(addAll id0 M r).next, (addAll id0 M r).bl.set (id0 + i) x⟩
def inn (bt : T Nat) (i : Nat) : List (Nat × AB) → List (Nat × AB)
  | [] => []
  | (j, x) :: r => cond (ahead bt j i) ((j, x) :: inn bt i r) (inn bt i r)
def outt (bt : T Nat) (i : Nat) : List (Nat × AB) → List (Nat × AB)
  | [] => []
  | (j, x) :: r => cond (ahead bt j i) (outt bt i r) ((j, x) :: outt bt i r)
def stOf : List (Nat × Mem) → Option Nat
  | [] => none
  | (l, _) :: _ => some l
def chainOk (bt : T Nat) (i : Nat) : List (Nat × Mem) → Bool
  | [] => true
  | (l, _) :: r => match ahead bt l i with
    | true => chainOk bt i r
    | false => false
def restOk (bt : T Nat) (i : Nat) : Nat → List Oper → Bool
  | _, [] => true
  | k, _ :: r => match ahead bt i k with
    | true => restOk bt i (k + 1) r
    | false => false
structure Par where
  E : Env
  callF : CallF
  n : Nat
  ops : Array Oper
  bt : T Nat
  id0 : Nat
structure GoSt where
  i : Nat
  F : T AV
  M : Mem
  louds : List (Nat × Mem)
  pend : List (Nat × AB)
  recs : T Rec
def goD (p : Par) : List Oper → GoSt → Option (GoSt × DFin)
  | [], g => some (g, .norm g.F (addAll p.id0 g.M g.pend))
  | o :: r, g =>
    let Fo := restrict g.F (looks p.ops o)
    match wantA p.ops Fo o with
    | none => none
    | some false => match put g.F p.n o.dst (.lit undef) with
      | some F' => goD p r { g with i := g.i + 1, F := F', recs := g.recs.set g.i ⟨Fo, .lit undef, .off, stOf g.louds⟩ }
      | none => none
    | some true => match quiet p.E g.M Fo o with
      | some v => match put g.F p.n o.dst v with
        | some F' => goD p r { g with i := g.i + 1, F := F', recs := g.recs.set g.i ⟨Fo, v, .quiet, stOf g.louds⟩ }
        | none => none
      | none => match madeA p.E Fo o with
        | some (blk, f) => match put g.F p.n o.dst (f (p.id0 + g.i)) with
          | some F' => goD p r { g with i := g.i + 1, F := F', pend := (g.i, blk) :: g.pend, recs := g.recs.set g.i ⟨Fo, f (p.id0 + g.i), .made blk, stOf g.louds⟩ }
          | none => none
        | none => match chainOk p.bt g.i g.louds with
          | false => none
          | true => match opC p.E p.callF (addAll p.id0 g.M (inn p.bt g.i g.pend)) Fo o with
            | some (.val v M') => match put g.F p.n o.dst v with
              | some F' => goD p r { g with i := g.i + 1, F := F', M := M', louds := (g.i, M') :: g.louds, pend := outt p.bt g.i g.pend, recs := g.recs.set g.i ⟨Fo, v, .loud M', stOf g.louds⟩ }
              | none => none
            | some (.pan ch M') => match restOk p.bt g.i (g.i + 1) r with
              | true => match put g.F p.n o.dst .unk with
                | some _ => some ({ g with i := g.i + 1, recs := g.recs.set g.i ⟨Fo, .unk, .dead, stOf g.louds⟩ }, .pan ch g.i M')
                | none => none
              | false => none
            | _ => none
def isLoud (recs : T Rec) (l : Nat) : Prop := ∃ r M', recs.get l = some r ∧ r.w = .loud M'
def memAt (M0 : Mem) (recs : T Rec) : Option Nat → Mem
  | none => M0
  | some l => match recs.get l with
    | some ⟨_, _, .loud M', _⟩ => M'
    | _ => M0
def LastLoud (recs : T Rec) (i : Nat) (st : Option Nat) : Prop :=
  (∀ l, l < i → isLoud recs l → ∃ s, st = some s ∧ l ≤ s) ∧ (∀ s, st = some s → s < i ∧ isLoud recs s)
def Chain (ops : Array Oper) (recs : T Rec) (F0 : T AV) (i : Nat) (F : T AV) (t : Tmp) : Prop :=
  (∃ j o r, j < i ∧ ops[j]? = some o ∧ o.dst = some t ∧ recs.get j = some r ∧ F.get t = some r.v) ∨ ((∀ j o, j < i → ops[j]? = some o → o.dst ≠ some t) ∧ F.get t = F0.get t)
def Sees (bt : T Nat) (recs : T Rec) (i j : Nat) (x : AB) : Prop :=
  j < i ∧ ahead bt j i = true ∧ (∃ r, recs.get j = some r ∧ r.w = .made x) ∧ ∀ l, l < i → isLoud recs l → ahead bt j l = false
structure PreOK (p : Par) (M0 : Mem) (recs : T Rec) (i : Nat) (st : Option Nat) (Mp : Mem) : Prop where
  next : Mp.next = (memAt M0 recs st).next
  louds : ∀ l, l < i → isLoud recs l → ahead p.bt l i = true
  get : ∀ b x, Mp.bl.get b = some x ↔ (∃ j, b = p.id0 + j ∧ Sees p.bt recs i j x) ∨ ((∀ j y, b = p.id0 + j → ¬ Sees p.bt recs i j y) ∧ (memAt M0 recs st).bl.get b = some x)
structure RecOK (p : Par) (F0 : T AV) (M0 : Mem) (recs : T Rec) (i : Nat) (o : Oper) (r : Rec) : Prop where
  chain : ∀ t, r.F.get t = none ∨ (t ∈ looks p.ops o ∧ Chain p.ops recs F0 i r.F t)
  last : LastLoud recs i r.st
  dst : ∀ d, o.dst = some d → d < p.n
  want : match r.w with
    | .off => wantA p.ops r.F o = some false ∧ r.v = .lit undef
    | .quiet => wantA p.ops r.F o = some true ∧ quiet p.E (memAt M0 recs r.st) r.F o = some r.v
    | .made x => wantA p.ops r.F o = some true ∧ ∃ f, madeA p.E r.F o = some (x, f) ∧ r.v = f (p.id0 + i)
    | .loud M' => wantA p.ops r.F o = some true ∧ ∃ Mp, opC p.E p.callF Mp r.F o = some (.val r.v M') ∧ PreOK p M0 recs i r.st Mp
    | .dead => True
structure GoOK (p : Par) (F0 : T AV) (M0 : Mem) (g : GoSt) : Prop where
  rest : ∀ k, g.i ≤ k → g.recs.get k = none
  row : ∀ i o, i < g.i → p.ops[i]? = some o → ∃ r, g.recs.get i = some r ∧ RecOK p F0 M0 g.recs i o r ∧ (∀ x, r.w = x → x ≠ .dead)
  chain : ∀ t, Chain p.ops g.recs F0 g.i g.F t
  last : LastLoud g.recs g.i (stOf g.louds)
  mem : g.M = memAt M0 g.recs (stOf g.louds)
  louds : ∀ l, isLoud g.recs l ↔ ∃ M', (l, M') ∈ g.louds
  loudM : ∀ l M', (l, M') ∈ g.louds → ∃ r, g.recs.get l = some r ∧ r.w = .loud M'
  pend : ∀ j x, (j, x) ∈ g.pend ↔ (∃ r, g.recs.get j = some r ∧ r.w = .made x) ∧ ∀ l, isLoud g.recs l → ahead p.bt j l = false
theorem mem_inn {bt : T Nat} {i j : Nat} {x : AB} : ∀ {l : List (Nat × AB)}, (j, x) ∈ inn bt i l ↔ (j, x) ∈ l ∧ ahead bt j i = true
  | [] => by simp [inn]
  | (k, y) :: r => by
    simp only [inn]
    cases h : ahead bt k i with
    | true =>
      simp only [cond_true, List.mem_cons, mem_inn (l := r), Prod.mk.injEq]
      constructor
      · rintro (⟨rfl, rfl⟩ | ⟨h1, h2⟩)
        · exact ⟨.inl ⟨rfl, rfl⟩, h⟩
        · exact ⟨.inr h1, h2⟩
      · rintro ⟨⟨rfl, rfl⟩ | h1, h2⟩
        · exact .inl ⟨rfl, rfl⟩
        · exact .inr ⟨h1, h2⟩
    | false =>
      simp only [cond_false, List.mem_cons, mem_inn (l := r), Prod.mk.injEq]
      constructor
      · rintro ⟨h1, h2⟩; exact ⟨.inr h1, h2⟩
      · rintro ⟨⟨rfl, rfl⟩ | h1, h2⟩
        · rw [h] at h2; cases h2
        · exact ⟨h1, h2⟩
theorem mem_outt {bt : T Nat} {i j : Nat} {x : AB} : ∀ {l : List (Nat × AB)}, (j, x) ∈ outt bt i l ↔ (j, x) ∈ l ∧ ahead bt j i = false
  | [] => by simp [outt]
  | (k, y) :: r => by
    simp only [outt]
    cases h : ahead bt k i with
    | false =>
      simp only [cond_false, List.mem_cons, mem_outt (l := r), Prod.mk.injEq]
      constructor
      · rintro (⟨rfl, rfl⟩ | ⟨h1, h2⟩)
        · exact ⟨.inl ⟨rfl, rfl⟩, h⟩
        · exact ⟨.inr h1, h2⟩
      · rintro ⟨⟨rfl, rfl⟩ | h1, h2⟩
        · exact .inl ⟨rfl, rfl⟩
        · exact .inr ⟨h1, h2⟩
    | true =>
      simp only [cond_true, List.mem_cons, mem_outt (l := r), Prod.mk.injEq]
      constructor
      · rintro ⟨h1, h2⟩; exact ⟨.inr h1, h2⟩
      · rintro ⟨⟨rfl, rfl⟩ | h1, h2⟩
        · rw [h] at h2; cases h2
        · exact ⟨h1, h2⟩
theorem addAll_next (id0 : Nat) (M : Mem) : ∀ (l : List (Nat × AB)), (addAll id0 M l).next = M.next
  | [] => rfl
  | (_, _) :: r => addAll_next id0 M r
theorem addAll_get (id0 : Nat) (M : Mem) : ∀ (l : List (Nat × AB)), (∀ j x y, (j, x) ∈ l → (j, y) ∈ l → x = y) → ∀ b x, (addAll id0 M l).bl.get b = some x ↔
    (∃ j, b = id0 + j ∧ (j, x) ∈ l) ∨ ((∀ j y, b = id0 + j → (j, y) ∉ l) ∧ M.bl.get b = some x)
  | [], _, b, x => by simp [addAll]
  | (i, z) :: r, hu, b, x => by
    have ih := addAll_get id0 M r (fun j x y h1 h2 => hu j x y (by simp [h1]) (by simp [h2])) b x
    simp only [addAll, T.get_set]
    by_cases e : b = id0 + i
    · rw [if_pos e]
      simp only [Option.some.injEq, List.mem_cons, Prod.mk.injEq]
      constructor
      · rintro rfl; exact .inl ⟨i, e, .inl ⟨rfl, rfl⟩⟩
      · rintro (⟨j, h1, h2⟩ | ⟨h1, h2⟩)
        · have : j = i := by omega
          subst this
          rcases h2 with ⟨_, rfl⟩ | h2
          · rfl
          · exact hu j z x (by simp) (by simp [h2])
        · exact absurd (.inl ⟨rfl, rfl⟩) (h1 i z e)
    · rw [if_neg e, ih]
      simp only [List.mem_cons, Prod.mk.injEq]
      constructor
      · rintro (⟨j, h1, h2⟩ | ⟨h1, h2⟩)
        · exact .inl ⟨j, h1, .inr h2⟩
        · refine .inr ⟨fun j y hb => ?_, h2⟩
          rintro (⟨rfl, rfl⟩ | h3)
          · exact e hb
          · exact h1 j y hb h3
      · rintro (⟨j, h1, h2⟩ | ⟨h1, h2⟩)
        · rcases h2 with ⟨rfl, rfl⟩ | h2
          · exact absurd h1 e
          · exact .inl ⟨j, h1, h2⟩
        · exact .inr ⟨fun j y hb h3 => h1 j y hb (.inr h3), h2⟩
theorem isLoud_set {recs : T Rec} {i l : Nat} {r : Rec} (h : recs.get i = none) : isLoud (recs.set i r) l ↔ (l = i ∧ ∃ M', r.w = .loud M') ∨ isLoud recs l := by
  unfold isLoud
  simp only [T.get_set]
  constructor
  · rintro ⟨q, M', h1, h2⟩
    split at h1
    · rename_i e
      simp only [Option.some.injEq] at h1
      subst h1
      exact .inl ⟨e, M', h2⟩
    · exact .inr ⟨q, M', h1, h2⟩
  · rintro (⟨rfl, M', h2⟩ | ⟨q, M', h1, h2⟩)
    · exact ⟨r, M', by simp, h2⟩
    · have : ¬ l = i := fun e => by subst e; rw [h] at h1; cases h1
      exact ⟨q, M', by rw [if_neg this]; exact h1, h2⟩
theorem memAt_set {M0 : Mem} {recs : T Rec} {i : Nat} {r : Rec} {st : Option Nat} (hs : ∀ s, st = some s → s ≠ i) : memAt M0 (recs.set i r) st = memAt M0 recs st := by
  cases st with
  | none => rfl
  | some s =>
    simp only [memAt, T.get_set]
    rw [if_neg (hs s rfl)]
theorem LastLoud.set {recs : T Rec} {i k : Nat} {r : Rec} {st : Option Nat} (h : LastLoud recs k st) (hn : recs.get i = none) (hk : k ≤ i) : LastLoud (recs.set i r) k st := by
  refine ⟨fun l hl hL => ?_, fun s hs => ?_⟩
  · rcases (isLoud_set hn).1 hL with ⟨rfl, _⟩ | h1
    · omega
    · exact h.1 l hl h1
  · obtain ⟨h1, h2⟩ := h.2 s hs
    exact ⟨h1, (isLoud_set hn).2 (.inr h2)⟩
theorem Chain.set {ops : Array Oper} {recs : T Rec} {F0 F : T AV} {i k : Nat} {r : Rec} {t : Tmp} (h : Chain ops recs F0 k F t) (hk : k ≤ i) : Chain ops (recs.set i r) F0 k F t := by
  rcases h with ⟨j, o, q, h1, h2, h3, h4, h5⟩ | h
  · refine .inl ⟨j, o, q, h1, h2, h3, ?_, h5⟩
    rw [T.get_set, if_neg (by omega)]
    exact h4
  · exact .inr h
theorem Sees.set {bt : T Nat} {recs : T Rec} {i k j : Nat} {r : Rec} {x : AB} (hn : recs.get i = none) (hk : k ≤ i) : Sees bt (recs.set i r) k j x ↔ Sees bt recs k j x := by
  unfold Sees
  constructor
  · rintro ⟨h1, h2, ⟨q, h3, h4⟩, h5⟩
    refine ⟨h1, h2, ⟨q, ?_, h4⟩, fun l hl hL => h5 l hl ((isLoud_set hn).2 (.inr hL))⟩
    rw [T.get_set, if_neg (by omega)] at h3
    exact h3
  · rintro ⟨h1, h2, ⟨q, h3, h4⟩, h5⟩
    refine ⟨h1, h2, ⟨q, ?_, h4⟩, fun l hl hL => ?_⟩
    · rw [T.get_set, if_neg (by omega)]; exact h3
    · rcases (isLoud_set hn).1 hL with ⟨rfl, _⟩ | h6
      · omega
      · exact h5 l hl h6
theorem PreOK.set {p : Par} {M0 : Mem} {recs : T Rec} {k i : Nat} {st : Option Nat} {Mp : Mem} {r : Rec} (h : PreOK p M0 recs k st Mp) (hn : recs.get i = none) (hk : k ≤ i) (hst : ∀ s, st = some s → s ≠ i) :
    PreOK p M0 (recs.set i r) k st Mp := by
  refine ⟨by rw [memAt_set hst]; exact h.next, fun l hl hL => ?_, fun b x => ?_⟩
  · rcases (isLoud_set hn).1 hL with ⟨rfl, _⟩ | h6
    · omega
    · exact h.louds l hl h6
  · rw [h.get b x, memAt_set hst]
    simp only [Sees.set hn hk]
theorem RecOK.set {p : Par} {F0 : T AV} {M0 : Mem} {recs : T Rec} {k i : Nat} {o : Oper} {q r : Rec} (h : RecOK p F0 M0 recs k o q) (hn : recs.get i = none) (hk : k ≤ i) :
    RecOK p F0 M0 (recs.set i r) k o q := by
  have hst : ∀ s, q.st = some s → s ≠ i := fun s hs => by have := (h.last.2 s hs).1; omega
  refine ⟨fun t => ?_, h.last.set hn hk, h.dst, ?_⟩
  · rcases h.chain t with h1 | ⟨h1, h2⟩
    · exact .inl h1
    · exact .inr ⟨h1, h2.set hk⟩
  · have hw := h.want
    revert hw
    cases q.w with
    | off => exact id
    | quiet => rw [memAt_set hst]; exact id
    | made x => exact id
    | dead => exact id
    | loud M' =>
      simp only []
      rintro ⟨h1, Mp, h2, h3⟩
      exact ⟨h1, Mp, h2, h3.set hn hk hst⟩
theorem Chain.restrict {ops : Array Oper} {recs : T Rec} {F0 F : T AV} {i : Nat} {l : List Tmp} (h : ∀ t, Chain ops recs F0 i F t) (t : Tmp) :
    (restrict F l).get t = none ∨ (t ∈ l ∧ Chain ops recs F0 i (restrict F l) t) := by
  rcases restrict_get F l t with h1 | ⟨h1, h2⟩
  · exact .inl h1
  · refine .inr ⟨h1, ?_⟩
    unfold Chain
    rw [h2]
    exact h t
theorem put_some {F F' : T AV} {n : Nat} {dst : Option Tmp} {v : AV} (h : put F n dst v = some F') : (∀ d, dst = some d → d < n) ∧ ∀ t, F'.get t = if dst = some t then some v else F.get t := by
  cases dst with
  | none =>
    simp only [put, Option.some.injEq] at h
    subst h
    exact ⟨(fun d hd => by cases hd), fun t => by simp⟩
  | some d =>
    simp only [put] at h
    cases hd : Nat.blt d n with
    | false => rw [hd] at h; simp at h
    | true =>
      rw [hd] at h
      simp only [cond_true, Option.some.injEq] at h
      subst h
      refine ⟨fun e he => ?_, fun t => ?_⟩
      · simp only [Option.some.injEq] at he
        subst he
        simpa [Nat.blt_eq] using hd
      · rw [T.get_set]
        by_cases e : t = d
        · subst e; simp
        · have : ¬ d = t := fun k => e k.symm
          simp [e, this]
theorem Chain.next {ops : Array Oper} {recs : T Rec} {F0 F F' : T AV} {i n : Nat} {o : Oper} {r : Rec} (h : ∀ t, Chain ops recs F0 i F t) (ho : ops[i]? = some o) (hp : put F n o.dst r.v = some F') (t : Tmp) :
    Chain ops (recs.set i r) F0 (i + 1) F' t := by
  obtain ⟨_, hg⟩ := put_some hp
  by_cases e : o.dst = some t
  · refine .inl ⟨i, o, r, by omega, ho, e, by rw [T.get_set, if_pos rfl], by rw [hg, if_pos e]⟩
  · rcases h t with ⟨j, o', q, h1, h2, h3, h4, h5⟩ | ⟨h1, h2⟩
    · exact .inl ⟨j, o', q, by omega, h2, h3, by rw [T.get_set, if_neg (by omega)]; exact h4, by rw [hg, if_neg e]; exact h5⟩
    · refine .inr ⟨fun j o' hj ho' => ?_, by rw [hg, if_neg e]; exact h2⟩
      by_cases ej : j = i
      · subst ej
        rw [ho, Option.some.injEq] at ho'
        subst ho'
        exact e
      · exact h1 j o' (by omega) ho'
theorem chainOk_ok {bt : T Nat} {i : Nat} : ∀ {l : List (Nat × Mem)}, chainOk bt i l = true → ∀ k M', (k, M') ∈ l → ahead bt k i = true
  | [], _, k, M', h => by simp at h
  | (q, N) :: r, h, k, M', hm => by
    simp only [chainOk] at h
    split at h
    · rename_i h1
      rcases List.mem_cons.1 hm with e | hm
      · simp only [Prod.mk.injEq] at e
        rw [e.1]; exact h1
      · exact chainOk_ok h k M' hm
    · cases h
theorem GoOK.names {p : Par} {F0 : T AV} {M0 : Mem} {g : GoSt} (h : GoOK p F0 M0 g) : ∀ j x y, (j, x) ∈ g.pend → (j, y) ∈ g.pend → x = y := by
  intro j x y h1 h2
  obtain ⟨⟨r, a1, a2⟩, _⟩ := (h.pend j x).1 h1
  obtain ⟨⟨q, b1, b2⟩, _⟩ := (h.pend j y).1 h2
  rw [a1, Option.some.injEq] at b1
  subst b1
  rw [a2] at b2
  exact What.made.inj b2
theorem GoOK.next {p : Par} {F0 : T AV} {M0 : Mem} {g : GoSt} (h : GoOK p F0 M0 g) {o : Oper} (ho : p.ops[g.i]? = some o) {r : Rec} {F' : T AV} (hp : put g.F p.n o.dst r.v = some F')
    (hr : RecOK p F0 M0 (g.recs.set g.i r) g.i o r) (hd : r.w ≠ .dead) {M' : Mem} {louds : List (Nat × Mem)} {pend : List (Nat × AB)}
    (hl : (louds = g.louds ∧ M' = g.M ∧ ∀ M, r.w ≠ .loud M) ∨ (r.w = .loud M' ∧ louds = (g.i, M') :: g.louds))
    (hpd : ∀ j x, (j, x) ∈ pend ↔ (∃ q, (g.recs.set g.i r).get j = some q ∧ q.w = .made x) ∧ ∀ l, isLoud (g.recs.set g.i r) l → ahead p.bt j l = false) :
    GoOK p F0 M0 { i := g.i + 1, F := F', M := M', louds := louds, pend := pend, recs := g.recs.set g.i r } := by
  have hn := h.rest g.i (Nat.le_refl _)
  have hstlt : ∀ s, stOf g.louds = some s → s ≠ g.i := fun s hs => by have := (h.last.2 s hs).1; omega
  refine ⟨fun k hk => ?_, fun i o' hi ho' => ?_, Chain.next h.chain ho hp, ?_, ?_, fun l => ?_, fun l N hm => ?_, hpd⟩
  · simp only [] at hk
    rw [T.get_set, if_neg (by omega)]
    exact h.rest k (by omega)
  · simp only [] at hi
    by_cases e : i = g.i
    · subst e
      rw [ho, Option.some.injEq] at ho'
      subst ho'
      exact ⟨r, by rw [T.get_set, if_pos rfl], hr, fun x hx => hx ▸ hd⟩
    · obtain ⟨q, h1, h2, h3⟩ := h.row i o' (by omega) ho'
      exact ⟨q, by rw [T.get_set, if_neg e]; exact h1, h2.set hn (by omega), h3⟩
  · rcases hl with ⟨rfl, _, hnl⟩ | ⟨hw, rfl⟩
    · refine ⟨fun l hl hL => ?_, fun s hs => ?_⟩
      · rcases (isLoud_set hn).1 hL with ⟨rfl, M, hM⟩ | h1
        · exact absurd hM (hnl M)
        · have hlt : l < g.i := by
            obtain ⟨q, M, hq, _⟩ := h1
            rcases Nat.lt_or_ge l g.i with k | k
            · exact k
            · rw [h.rest l k] at hq; cases hq
          exact h.last.1 l hlt h1
      · obtain ⟨h1, h2⟩ := h.last.2 s hs
        exact ⟨by simp only []; omega, (isLoud_set hn).2 (.inr h2)⟩
    · refine ⟨fun l hl _ => ⟨g.i, rfl, by simp only [] at hl; omega⟩, fun s hs => ?_⟩
      simp only [stOf, Option.some.injEq] at hs
      subst hs
      exact ⟨by simp only []; omega, (isLoud_set hn).2 (.inl ⟨rfl, _, hw⟩)⟩
  · rcases hl with ⟨rfl, rfl, hnl⟩ | ⟨hw, rfl⟩
    · rw [memAt_set hstlt]; exact h.mem
    · obtain ⟨rF, rv, rw', rst⟩ := r
      simp only at hw
      subst hw
      simp only [stOf, memAt, T.get_set, if_true]
  · rw [isLoud_set hn, h.louds l]
    rcases hl with ⟨rfl, _, hnl⟩ | ⟨hw, rfl⟩
    · constructor
      · rintro (⟨rfl, M, hM⟩ | h1)
        · exact absurd hM (hnl M)
        · exact h1
      · exact .inr
    · simp only [List.mem_cons, Prod.mk.injEq]
      constructor
      · rintro (⟨rfl, M, hM⟩ | ⟨M, hM⟩)
        · exact ⟨M', .inl ⟨rfl, rfl⟩⟩
        · exact ⟨M, .inr hM⟩
      · rintro ⟨M, ⟨rfl, rfl⟩ | hM⟩
        · exact .inl ⟨rfl, _, hw⟩
        · exact .inr ⟨M, hM⟩
  · rcases hl with ⟨rfl, _, hnl⟩ | ⟨hw, rfl⟩
    · obtain ⟨q, h1, h2⟩ := h.loudM l N hm
      refine ⟨q, ?_, h2⟩
      rw [T.get_set, if_neg ?_]
      · exact h1
      · intro e; subst e; rw [hn] at h1; cases h1
    · simp only [List.mem_cons, Prod.mk.injEq] at hm
      rcases hm with ⟨rfl, rfl⟩ | hm
      · exact ⟨r, by rw [T.get_set, if_pos rfl], hw⟩
      · obtain ⟨q, h1, h2⟩ := h.loudM l N hm
        refine ⟨q, ?_, h2⟩
        rw [T.get_set, if_neg ?_]
        · exact h1
        · intro e; subst e; rw [hn] at h1; cases h1
theorem pend_same {p : Par} {F0 : T AV} {M0 : Mem} {g : GoSt} (h : GoOK p F0 M0 g) {r : Rec} (h1 : ∀ M, r.w ≠ .loud M) (h2 : ∀ x, r.w ≠ .made x) (j : Nat) (x : AB) :
    (j, x) ∈ g.pend ↔ (∃ q, (g.recs.set g.i r).get j = some q ∧ q.w = .made x) ∧ ∀ l, isLoud (g.recs.set g.i r) l → ahead p.bt j l = false := by
  have hn := h.rest g.i (Nat.le_refl _)
  rw [h.pend j x]
  constructor
  · rintro ⟨⟨q, a1, a2⟩, a3⟩
    refine ⟨⟨q, ?_, a2⟩, fun l hL => ?_⟩
    · rw [T.get_set, if_neg (fun e => by subst e; rw [hn] at a1; cases a1)]; exact a1
    · rcases (isLoud_set hn).1 hL with ⟨_, M, hM⟩ | h3
      · exact absurd hM (h1 M)
      · exact a3 l h3
  · rintro ⟨⟨q, a1, a2⟩, a3⟩
    rw [T.get_set] at a1
    split at a1
    · simp only [Option.some.injEq] at a1
      subst a1
      exact absurd a2 (h2 x)
    · exact ⟨⟨q, a1, a2⟩, fun l hL => a3 l ((isLoud_set hn).2 (.inr hL))⟩
inductive DFacts (p : Par) (F0 : T AV) (M0 : Mem) (recs : T Rec) : DFin → Prop
  | norm {F : T AV} {st : Option Nat} {pend : List (Nat × AB)}
      (row : ∀ i o, i < p.ops.size → p.ops[i]? = some o → ∃ r, recs.get i = some r ∧ RecOK p F0 M0 recs i o r ∧ r.w ≠ .dead)
      (rest : ∀ k, p.ops.size ≤ k → recs.get k = none)
      (chain : ∀ t, Chain p.ops recs F0 p.ops.size F t) (last : LastLoud recs p.ops.size st)
      (hp : ∀ j x, (j, x) ∈ pend ↔ (∃ r, recs.get j = some r ∧ r.w = .made x) ∧ ∀ l, isLoud recs l → ahead p.bt j l = false) :
      DFacts p F0 M0 recs (.norm F (addAll p.id0 (memAt M0 recs st) pend))
  | pan {ch : AChain} {i : Nat} {M' Mp : Mem} {o : Oper} {r : Rec} (hi : i < p.ops.size) (ho : p.ops[i]? = some o) (hr : recs.get i = some r) (hd : r.w = .dead)
      (hrow : RecOK p F0 M0 recs i o r)
      (row : ∀ j o, j < i → p.ops[j]? = some o → ∃ r, recs.get j = some r ∧ RecOK p F0 M0 recs j o r ∧ r.w ≠ .dead)
      (rest : ∀ k, i < k → recs.get k = none)
      (hw : wantA p.ops r.F o = some true) (hop : opC p.E p.callF Mp r.F o = some (.pan ch M')) (hpre : PreOK p M0 recs i r.st Mp)
      (behind : ∀ k, i < k → k < p.ops.size → ahead p.bt i k = true) : DFacts p F0 M0 recs (.pan ch i M')
theorem restOk_ok {bt : T Nat} {i : Nat} : ∀ {r : List Oper} {k : Nat}, restOk bt i k r = true → ∀ q, k ≤ q → q < k + r.length → ahead bt i q = true
  | [], k, _, q, h1, h2 => by simp at h2; omega
  | _ :: r, k, h, q, h1, h2 => by
    simp only [restOk] at h
    split at h
    · rename_i hk
      by_cases e : q = k
      · subst e; exact hk
      · exact restOk_ok h q (by omega) (by simp at h2; omega)
    · cases h
theorem goPre {p : Par} {F0 : T AV} {M0 : Mem} {g : GoSt} (h : GoOK p F0 M0 g) {r : Rec} (hst : r.st = stOf g.louds) (hch : chainOk p.bt g.i g.louds = true) :
    PreOK p M0 (g.recs.set g.i r) g.i r.st (addAll p.id0 g.M (inn p.bt g.i g.pend)) := by
  have hn := h.rest g.i (Nat.le_refl _)
  rw [hst]
  refine PreOK.set ?_ hn (Nat.le_refl _) fun s hs => by have := (h.last.2 s hs).1; omega
  have hlt : ∀ l, isLoud g.recs l → l < g.i := fun l hL => by
    obtain ⟨q, M, hq, _⟩ := hL
    rcases Nat.lt_or_ge l g.i with k | k
    · exact k
    · rw [h.rest l k] at hq; cases hq
  refine ⟨by rw [addAll_next, h.mem], fun l _ hL => ?_, fun b x => ?_⟩
  · obtain ⟨M', hM⟩ := (h.louds l).1 hL
    exact chainOk_ok hch l M' hM
  · have hu : ∀ j x y, (j, x) ∈ inn p.bt g.i g.pend → (j, y) ∈ inn p.bt g.i g.pend → x = y := fun j x y h1 h2 => h.names j x y (mem_inn.1 h1).1 (mem_inn.1 h2).1
    rw [addAll_get p.id0 g.M _ hu b x, ← h.mem]
    have key : ∀ j y, (j, y) ∈ inn p.bt g.i g.pend ↔ Sees p.bt g.recs g.i j y := by
      intro j y
      rw [mem_inn, h.pend j y]
      unfold Sees
      constructor
      · rintro ⟨⟨⟨q, h1, h2⟩, h3⟩, h4⟩
        refine ⟨?_, h4, ⟨q, h1, h2⟩, fun l _ hL => h3 l hL⟩
        rcases Nat.lt_or_ge j g.i with k | k
        · exact k
        · rw [h.rest j k] at h1; cases h1
      · rintro ⟨_, h4, h5, h3⟩
        exact ⟨⟨h5, fun l hL => h3 l (hlt l hL) hL⟩, h4⟩
    simp only [key]
theorem goD_ok {p : Par} {F0 : T AV} {M0 : Mem} (hS : ∀ j l, ahead p.bt j l = true → j < l) : ∀ (l : List Oper) (g g' : GoSt) (fin : DFin), (∀ k, l[k]? = p.ops[g.i + k]?) → g.i + l.length = p.ops.size → GoOK p F0 M0 g → goD p l g = some (g', fin) →
    DFacts p F0 M0 g'.recs fin ∧ (∀ q M', (q, M') ∈ g'.louds → ∃ r, g'.recs.get q = some r ∧ r.w = .loud M') ∧ ∀ q, isLoud g'.recs q → ∃ M', (q, M') ∈ g'.louds
  | [], g, g', fin, _, hlen, h, e => by
    simp only [goD, Option.some.injEq, Prod.mk.injEq] at e
    obtain ⟨rfl, rfl⟩ := e
    simp only [List.length_nil, Nat.add_zero] at hlen
    refine ⟨?_, h.loudM, fun q hq => (h.louds q).1 hq⟩
    rw [h.mem]
    refine .norm (fun i o hi ho => ?_) (fun k hk => h.rest k (by omega)) (fun t => by rw [← hlen]; exact h.chain t) (by rw [← hlen]; exact h.last) h.pend
    obtain ⟨r, h1, h2, h3⟩ := h.row i o (by omega) ho
    exact ⟨r, h1, h2, h3 _ rfl⟩
  | o :: r, g, g', fin, hl, hlen, h, e => by
    have ho : p.ops[g.i]? = some o := by have := hl 0; simpa using this.symm
    have hl' : ∀ k, r[k]? = p.ops[g.i + 1 + k]? := fun k => by have := hl (k + 1); simpa [Nat.add_assoc, Nat.add_comm 1 k] using this
    have hlen' : g.i + 1 + r.length = p.ops.size := by simp only [List.length_cons] at hlen; omega
    have hn := h.rest g.i (Nat.le_refl _)
    have hstlt : ∀ s, stOf g.louds = some s → s ≠ g.i := fun s hs => by have := (h.last.2 s hs).1; omega
    have hchain := Chain.restrict (l := looks p.ops o) h.chain
    have mk : ∀ (q : Rec), q.F = restrict g.F (looks p.ops o) → q.st = stOf g.louds → (∀ d, o.dst = some d → d < p.n) →
        (match q.w with
          | .off => wantA p.ops q.F o = some false ∧ q.v = .lit undef
          | .quiet => wantA p.ops q.F o = some true ∧ quiet p.E (memAt M0 (g.recs.set g.i q) q.st) q.F o = some q.v
          | .made x => wantA p.ops q.F o = some true ∧ ∃ f, madeA p.E q.F o = some (x, f) ∧ q.v = f (p.id0 + g.i)
          | .loud M' => wantA p.ops q.F o = some true ∧ ∃ Mp, opC p.E p.callF Mp q.F o = some (.val q.v M') ∧ PreOK p M0 (g.recs.set g.i q) g.i q.st Mp
          | .dead => True) → RecOK p F0 M0 (g.recs.set g.i q) g.i o q := by
      intro q hF hst hdst hw
      refine ⟨fun t => ?_, ?_, hdst, hw⟩
      · rw [hF]
        rcases hchain t with h1 | ⟨h1, h2⟩
        · exact .inl h1
        · exact .inr ⟨h1, h2.set (Nat.le_refl _)⟩
      · rw [hst]; exact h.last.set hn (Nat.le_refl _)
    simp only [goD] at e
    split at e
    · cases e
    · rename_i hw
      split at e
      · rename_i F' hF'
        exact goD_ok hS r _ g' fin hl' hlen' (h.next ho (r := ⟨restrict g.F (looks p.ops o), .lit undef, .off, stOf g.louds⟩) hF' (mk _ rfl rfl (put_some hF').1 ⟨hw, rfl⟩) (by simp) (.inl ⟨rfl, rfl, by simp⟩)
          (pend_same h (by simp) (by simp))) e
      · cases e
    · rename_i hw
      split at e
      · rename_i v hv
        split at e
        · rename_i F' hF'
          exact goD_ok hS r _ g' fin hl' hlen' (h.next ho (r := ⟨restrict g.F (looks p.ops o), v, .quiet, stOf g.louds⟩) hF' (mk _ rfl rfl (put_some hF').1 ⟨hw, by
            rw [memAt_set hstlt, ← h.mem]; exact hv⟩) (by simp) (.inl ⟨rfl, rfl, by simp⟩) (pend_same h (by simp) (by simp))) e
        · cases e
      · split at e
        · rename_i blk f hm
          split at e
          · rename_i F' hF'
            refine goD_ok hS r _ g' fin hl' hlen' (h.next ho (r := ⟨restrict g.F (looks p.ops o), f (p.id0 + g.i), .made blk, stOf g.louds⟩) hF' (mk _ rfl rfl (put_some hF').1 ⟨hw, f, hm, rfl⟩) (by simp) (.inl ⟨rfl, rfl, by simp⟩) ?_) e
            intro j x
            simp only [List.mem_cons, Prod.mk.injEq]
            have hLs : ∀ l, isLoud (g.recs.set g.i ⟨restrict g.F (looks p.ops o), f (p.id0 + g.i), .made blk, stOf g.louds⟩) l → isLoud g.recs l := fun l hL => by
              rcases (isLoud_set hn).1 hL with ⟨_, M, hM⟩ | h3
              · simp at hM
              · exact h3
            constructor
            · rintro (⟨rfl, rfl⟩ | hj)
              · refine ⟨⟨_, by rw [T.get_set, if_pos rfl], rfl⟩, fun l hL => ?_⟩
                obtain ⟨q, M, hq, _⟩ := hLs l hL
                have hlt : l < g.i := by
                  rcases Nat.lt_or_ge l g.i with k | k
                  · exact k
                  · rw [h.rest l k] at hq; cases hq
                cases ha : ahead p.bt g.i l with
                | false => rfl
                | true => have := hS _ _ ha; omega
              · obtain ⟨⟨q, a1, a2⟩, a3⟩ := (h.pend j x).1 hj
                refine ⟨⟨q, ?_, a2⟩, fun l hL => a3 l (hLs l hL)⟩
                rw [T.get_set, if_neg (fun e => by subst e; rw [hn] at a1; cases a1)]; exact a1
            · rintro ⟨⟨q, a1, a2⟩, a3⟩
              rw [T.get_set] at a1
              split at a1
              · rename_i ej
                simp only [Option.some.injEq] at a1
                subst a1
                simp only [What.made.injEq] at a2
                exact .inl ⟨ej, a2.symm⟩
              · exact .inr ((h.pend j x).2 ⟨⟨q, a1, a2⟩, fun l hL => a3 l ((isLoud_set hn).2 (.inr hL))⟩)
          · cases e
        · split at e
          · cases e
          · rename_i hch
            split at e
            · rename_i v M' hop
              split at e
              · rename_i F' hF'
                refine goD_ok hS r _ g' fin hl' hlen' (h.next ho (r := ⟨restrict g.F (looks p.ops o), v, .loud M', stOf g.louds⟩) hF' (mk _ rfl rfl (put_some hF').1 ⟨hw, _, hop, goPre h rfl hch⟩) (by simp) (.inr ⟨rfl, rfl⟩) ?_) e
                intro j x
                rw [mem_outt, h.pend j x]
                constructor
                · rintro ⟨⟨⟨q, a1, a2⟩, a3⟩, a4⟩
                  refine ⟨⟨q, ?_, a2⟩, fun l hL => ?_⟩
                  · rw [T.get_set, if_neg (fun e => by subst e; rw [hn] at a1; cases a1)]; exact a1
                  · rcases (isLoud_set hn).1 hL with ⟨rfl, _⟩ | h3
                    · exact a4
                    · exact a3 l h3
                · rintro ⟨⟨q, a1, a2⟩, a3⟩
                  rw [T.get_set] at a1
                  split at a1
                  · simp only [Option.some.injEq] at a1
                    subst a1
                    simp at a2
                  · exact ⟨⟨⟨q, a1, a2⟩, fun l hL => a3 l ((isLoud_set hn).2 (.inr hL))⟩, a3 g.i ((isLoud_set hn).2 (.inl ⟨rfl, _, rfl⟩))⟩
              · cases e
            · rename_i ch M' hop
              split at e
              · rename_i hrest
                split at e
                · rename_i F' hF'
                  simp only [Option.some.injEq, Prod.mk.injEq] at e
                  obtain ⟨rfl, rfl⟩ := e
                  have hget : (g.recs.set g.i ⟨restrict g.F (looks p.ops o), .unk, .dead, stOf g.louds⟩).get g.i = some ⟨restrict g.F (looks p.ops o), .unk, .dead, stOf g.louds⟩ := by rw [T.get_set, if_pos rfl]
                  refine ⟨.pan (by omega) ho hget rfl (mk _ rfl rfl (put_some hF').1 trivial) (fun j o' hj ho' => ?_) (fun k hk => ?_) hw hop (goPre h rfl hch) (fun k h1 h2 => restOk_ok hrest k (by omega) (by omega)), fun q N hm => ?_, fun q hq => ?_⟩
                  · obtain ⟨q, h1, h2, h3⟩ := h.row j o' hj ho'
                    exact ⟨q, by rw [T.get_set, if_neg (by omega)]; exact h1, h2.set hn (by omega), h3 _ rfl⟩
                  · rw [T.get_set, if_neg (by omega)]; exact h.rest k (by omega)
                  · obtain ⟨q', h1, h2⟩ := h.loudM q N hm
                    refine ⟨q', ?_, h2⟩
                    simp only [T.get_set]
                    rw [if_neg (fun e => by subst e; rw [hn] at h1; cases h1)]
                    exact h1
                  · rcases (isLoud_set hn).1 hq with ⟨_, M, hM⟩ | h3
                    · simp at hM
                    · exact (h.louds q).1 h3
                · cases e
              · cases e
            · cases e
def wrGo : List Oper → Nat → T Nat → Option (T Nat)
  | [], _, w => some w
  | o :: r, i, w => match o.dst with
    | none => wrGo r (i + 1) w
    | some d => match w.get d with
      | some _ => none
      | none => wrGo r (i + 1) (w.set d i)
def looksOk (bt wr : T Nat) (i : Nat) : List Tmp → Bool
  | [] => true
  | t :: r => match (match wr.get t with
      | none => true
      | some j => cond (Nat.blt j i) (ahead bt j i) (cond (Nat.blt i j) (ahead bt i j) true)) with
    | true => looksOk bt wr i r
    | false => false
def predsOk (i : Nat) : List Nat → Bool
  | [] => true
  | p :: r => match Nat.blt p i with
    | true => predsOk i r
    | false => false
def statGo (ops : Array Oper) (bt wr : T Nat) : List Oper → Nat → Bool
  | [], _ => true
  | o :: r, i => match predsOk i (preds o) with
    | true => match looksOk bt wr i (looks ops o) with
      | true => statGo ops bt wr r (i + 1)
      | false => false
    | false => false
def staticOk (ops : Array Oper) (bt : T Nat) : Bool :=
  match wrGo ops.toList 0 .leaf with
  | some wr => statGo ops bt wr ops.toList 0
  | none => false
structure Static (ops : Array Oper) (bt : T Nat) : Prop where
  single : ∀ (i j : Nat) (oi oj : Oper) (d : Tmp), ops[i]? = some oi → ops[j]? = some oj → oi.dst = some d → oj.dst = some d → i = j
  reads : ∀ (i : Nat) (o : Oper) (t : Tmp) (j : Nat) (oj : Oper), ops[i]? = some o → t ∈ looks ops o → ops[j]? = some oj → oj.dst = some t → (j < i → ahead bt j i = true) ∧ (i < j → ahead bt i j = true)
  preds : ∀ (i : Nat) (o : Oper) (q : Nat), ops[i]? = some o → q ∈ preds o → q < i
theorem wrGo_ok {ops : Array Oper} : ∀ (l : List Oper) (i : Nat) (w wr : T Nat), (∀ k, l[k]? = ops[i + k]?) → wrGo l i w = some wr →
    (∀ d j, w.get d = some j ↔ j < i ∧ ∃ o, ops[j]? = some o ∧ o.dst = some d) → (∀ d j, wr.get d = some j ↔ ∃ o, ops[j]? = some o ∧ o.dst = some d)
  | [], i, w, wr, hl, h, hw => by
    simp only [wrGo, Option.some.injEq] at h
    subst h
    intro d j
    rw [hw d j]
    constructor
    · rintro ⟨_, h2⟩; exact h2
    · rintro ⟨o, h1, h2⟩
      refine ⟨?_, o, h1, h2⟩
      rcases Nat.lt_or_ge j i with k | k
      · exact k
      · have := hl (j - i)
        rw [show i + (j - i) = j from by omega, h1] at this
        simp at this
  | o :: r, i, w, wr, hl, h, hw => by
    have ho : ops[i]? = some o := by have := hl 0; simpa using this.symm
    have hl' : ∀ k, r[k]? = ops[i + 1 + k]? := fun k => by have := hl (k + 1); simpa [Nat.add_assoc, Nat.add_comm 1 k] using this
    simp only [wrGo] at h
    split at h
    · rename_i hd
      refine wrGo_ok r (i + 1) w wr hl' h fun d j => ?_
      rw [hw d j]
      constructor
      · rintro ⟨h1, h2⟩; exact ⟨by omega, h2⟩
      · rintro ⟨h1, o', h2, h3⟩
        refine ⟨?_, o', h2, h3⟩
        by_cases e : j = i
        · subst e; rw [ho, Option.some.injEq] at h2; subst h2; rw [hd] at h3; cases h3
        · omega
    · rename_i d0 hd
      split at h
      · cases h
      · rename_i hnone
        refine wrGo_ok r (i + 1) _ wr hl' h fun d j => ?_
        rw [T.get_set]
        by_cases e : d = d0
        · subst e
          rw [if_pos rfl]
          constructor
          · intro hj
            simp only [Option.some.injEq] at hj
            subst hj
            exact ⟨by omega, o, ho, hd⟩
          · rintro ⟨h1, o', h2, h3⟩
            by_cases ej : j = i
            · rw [ej]
            · exfalso
              have := (hw d j).2 ⟨by omega, o', h2, h3⟩
              rw [hnone] at this; cases this
        · rw [if_neg e, hw d j]
          constructor
          · rintro ⟨h1, h2⟩; exact ⟨by omega, h2⟩
          · rintro ⟨h1, o', h2, h3⟩
            refine ⟨?_, o', h2, h3⟩
            by_cases ej : j = i
            · subst ej; rw [ho, Option.some.injEq] at h2; subst h2; rw [hd, Option.some.injEq] at h3; exact absurd h3.symm e
            · omega
theorem looksOk_ok {bt wr : T Nat} {i : Nat} : ∀ {l : List Tmp}, looksOk bt wr i l = true → ∀ t ∈ l, ∀ j, wr.get t = some j → (j < i → ahead bt j i = true) ∧ (i < j → ahead bt i j = true)
  | [], _, t, ht, _, _ => by simp at ht
  | u :: r, h, t, ht, j, hj => by
    simp only [looksOk] at h
    split at h
    · rename_i h1
      rcases List.mem_cons.1 ht with rfl | ht
      · rw [hj] at h1
        simp only [] at h1
        refine ⟨fun hlt => ?_, fun hlt => ?_⟩
        · have : Nat.blt j i = true := by simpa [Nat.blt_eq] using hlt
          rw [this] at h1
          exact h1
        · have n1 : Nat.blt j i = false := by
            cases hb : Nat.blt j i with
            | false => rfl
            | true => have : j < i := by simpa [Nat.blt_eq] using hb
                      omega
          have n2 : Nat.blt i j = true := by simpa [Nat.blt_eq] using hlt
          rw [n1, n2] at h1
          exact h1
      · exact looksOk_ok h t ht j hj
    · cases h
theorem predsOk_ok {i : Nat} : ∀ {l : List Nat}, predsOk i l = true → ∀ q ∈ l, q < i
  | [], _, q, h => by simp at h
  | p :: r, h, q, hq => by
    simp only [predsOk] at h
    split at h
    · rename_i h1
      rcases List.mem_cons.1 hq with rfl | hq
      · simpa [Nat.blt_eq] using h1
      · exact predsOk_ok h q hq
    · cases h
theorem statGo_ok {ops : Array Oper} {bt wr : T Nat} : ∀ (l : List Oper) (i : Nat), (∀ k, l[k]? = ops[i + k]?) → statGo ops bt wr l i = true → ∀ k o, i ≤ k → ops[k]? = some o →
    predsOk k (preds o) = true ∧ looksOk bt wr k (looks ops o) = true
  | [], i, hl, _, k, o, hk, ho => by
    have := hl (k - i)
    rw [show i + (k - i) = k from by omega, ho] at this
    simp at this
  | q :: r, i, hl, h, k, o, hk, ho => by
    simp only [statGo] at h
    split at h
    · rename_i h1
      split at h
      · rename_i h2
        by_cases e : k = i
        · subst e
          have := hl 0
          simp only [Nat.add_zero, List.getElem?_cons_zero] at this
          rw [ho, Option.some.injEq] at this
          subst this
          exact ⟨h1, h2⟩
        · exact statGo_ok r (i + 1) (fun k => by have := hl (k + 1); simpa [Nat.add_assoc, Nat.add_comm 1 k] using this) h k o (by omega) ho
      · cases h
    · cases h
theorem staticOk_ok {ops : Array Oper} {bt : T Nat} (h : staticOk ops bt = true) : Static ops bt := by
  unfold staticOk at h
  split at h
  · rename_i wr hwr
    have hw := wrGo_ok (ops := ops) ops.toList 0 .leaf wr (fun k => by simp) hwr (fun d j => by simp)
    have hs := statGo_ok (ops := ops) ops.toList 0 (fun k => by simp) h
    refine ⟨fun i j oi oj d h1 h2 h3 h4 => ?_, fun i o t j oj h1 h2 h3 h4 => ?_, fun i o q h1 h2 => ?_⟩
    · have a := (hw d i).2 ⟨oi, h1, h3⟩
      have b := (hw d j).2 ⟨oj, h2, h4⟩
      rw [a, Option.some.injEq] at b
      exact b
    · exact looksOk_ok (hs i o (Nat.zero_le _) h1).2 t h2 j ((hw t j).2 ⟨oj, h3, h4⟩)
    · exact predsOk_ok (hs i o (Nat.zero_le _) h1).1 q h2
  · cases h
theorem Reach.lt {ops : Array Oper} {bt : T Nat} (hs : Static ops bt) {j i : Nat} (h : Reach ops j i) : j < i := by
  induction h with
  | one ho hp => exact hs.preds _ _ _ ho hp
  | step _ ho hp ih => have := hs.preds _ _ _ ho hp; omega
def same0 : Value → Value → Bool
  | .bool a, .bool b => a == b
  | .int j a, .int k b => decide (j = k) && decide (a = b)
  | .float j a, .float k b => decide (j = k) && Nat.beq a b
  | .string a, .string b => decide (a.data.toList = b.data.toList)
  | .pointer a, .pointer b => decide (a = b)
  | .slice a l c, .slice b m d => decide (a = b) && Nat.beq l m && Nat.beq c d
  | .map a, .map b => decide (a = b)
  | .nilFunc, .nilFunc => true
  | .nilIface, .nilIface => true
  | _, _ => false
def sameL : List Value → List Value → Bool
  | [], [] => true
  | a :: x, b :: y => match same0 a b with
    | true => sameL x y
    | false => false
  | _, _ => false
def sameV : Value → Value → Bool
  | .agg a, .agg b => sameL a.toList b.toList
  | .tuple a, .tuple b => sameL a.toList b.toList
  | .iface t a, .iface u b => Nat.beq t u && same0 a b
  | .func (.func f) a c, .func (.func g) b d => Nat.beq f g && sameL a.toList b.toList && sameL c.toList d.toList
  | a, b => same0 a b
mutual
def sameA : AV → AV → Bool
  | .unk, .unk => true
  | .lit a, .lit b => sameV a b
  | .ptr a o, .ptr b q => Nat.beq a b && Nat.beq o q
  | .slice a o l c e, .slice b q m d f => Nat.beq a b && Nat.beq o q && Nat.beq l m && decide (c = d) && Nat.beq e f
  | .eslice, .eslice => true
  | .mapp a, .mapp b => Nat.beq a b
  | .func (.func f) a c, .func (.func g) b d => Nat.beq f g && (sameAs a b && sameAs c d)
  | .iface t a, .iface u b => Nat.beq t u && sameA a b
  | .agg a, .agg b => sameAs a b
  | .tuple a, .tuple b => sameAs a b
  | .ex a, .ex b => a.same b
  | .one, .one => true
  | .nan, .nan => true
  | _, _ => false
def sameAs : List AV → List AV → Bool
  | [], [] => true
  | a :: x, b :: y => sameA a b && sameAs x y
  | _, _ => false
end
theorem same0_ok {a b : Value} (h : same0 a b = true) : a = b := by
  unfold same0 at h
  split at h
  · simp only [beq_iff_eq] at h; rw [h]
  · simp only [Bool.and_eq_true, decide_eq_true_eq] at h; rw [h.1, h.2]
  · simp only [Bool.and_eq_true, decide_eq_true_eq] at h; rw [h.1, Nat.eq_of_beq_eq_true h.2]
  · simp only [decide_eq_true_eq] at h
    congr 1
    apply ByteArray.ext
    exact Array.ext' h
  · simp only [decide_eq_true_eq] at h; rw [h]
  · simp only [Bool.and_eq_true, decide_eq_true_eq] at h; rw [h.1.1, Nat.eq_of_beq_eq_true h.1.2, Nat.eq_of_beq_eq_true h.2]
  · simp only [decide_eq_true_eq] at h; rw [h]
  · rfl
  · rfl
  · cases h
theorem sameL_ok : ∀ {a b : List Value}, sameL a b = true → a = b
  | [], [], _ => rfl
  | a :: x, b :: y, h => by
    simp only [sameL] at h
    split at h
    · rename_i h1
      rw [same0_ok h1, sameL_ok h]
    · cases h
  | [], _ :: _, h => by simp [sameL] at h
  | _ :: _, [], h => by simp [sameL] at h
theorem sameV_ok {a b : Value} (h : sameV a b = true) : a = b := by
  unfold sameV at h
  split at h
  · congr 1; exact Array.ext' (sameL_ok h)
  · congr 1; exact Array.ext' (sameL_ok h)
  · simp only [Bool.and_eq_true] at h
    rw [Nat.eq_of_beq_eq_true h.1, same0_ok h.2]
  · simp only [Bool.and_eq_true] at h
    rw [Nat.eq_of_beq_eq_true h.1.1, Array.ext' (sameL_ok h.1.2), Array.ext' (sameL_ok h.2)]
  · exact same0_ok h
mutual
theorem sameA_ok : ∀ (a b : AV), sameA a b = true → a = b
  | .unk, b, h => by cases b <;> simp [sameA] at h ⊢
  | .lit x, b, h => by cases b <;> simp [sameA] at h ⊢; exact sameV_ok h
  | .ptr a o, b, h => by
    cases b <;> simp [sameA] at h ⊢
    exact h
  | .slice a o l c e, b, h => by
    cases b <;> simp [sameA] at h ⊢
    exact ⟨h.1.1.1.1, h.1.1.1.2, h.1.1.2, h.1.2, h.2⟩
  | .eslice, b, h => by cases b <;> simp [sameA] at h ⊢
  | .mapp a, b, h => by
    cases b <;> simp [sameA] at h ⊢
    exact h
  | .func fn a c, b, h => by
    cases b with
    | func gn b d =>
      cases fn <;> cases gn <;> simp [sameA] at h ⊢
      exact ⟨h.1, sameAs_ok a b h.2.1, sameAs_ok c d h.2.2⟩
    | _ => cases fn <;> simp [sameA] at h
  | .iface t a, b, h => by
    cases b <;> simp [sameA] at h ⊢
    exact ⟨h.1, sameA_ok a _ h.2⟩
  | .agg a, b, h => by
    cases b <;> simp [sameA] at h ⊢
    exact sameAs_ok a _ h
  | .tuple a, b, h => by
    cases b <;> simp [sameA] at h ⊢
    exact sameAs_ok a _ h
  | .ex a, b, h => by
    cases b <;> simp [sameA] at h ⊢
    exact Exp.same_ok h
  | .one, b, h => by cases b <;> simp [sameA] at h ⊢
  | .nan, b, h => by cases b <;> simp [sameA] at h ⊢
theorem sameAs_ok : ∀ (a b : List AV), sameAs a b = true → a = b
  | [], [], _ => rfl
  | a :: x, b :: y, h => by
    simp [sameAs] at h
    rw [sameA_ok a b h.1, sameAs_ok x y h.2]
  | [], _ :: _, h => by simp [sameAs] at h
  | _ :: _, [], h => by simp [sameAs] at h
end
def allowed (bt : T Nat) (i : Nat) (st : Option Nat) : List (Nat × Mem) → Bool
  | [] => true
  | (l, _) :: r => match (match st with
      | none => !ahead bt l i
      | some s => cond (Nat.blt s l) (!ahead bt l i) (!ahead bt i l)) with
    | true => allowed bt i st r
    | false => false
def stagesOk (p : Par) (louds : List (Nat × Mem)) (i : Nat) (o : Oper) (r : Rec) : List (Option Nat × Mem) → Bool
  | [] => true
  | (st, M) :: rest => match (match decide (st = r.st) with
      | true => true
      | false => match allowed p.bt i st louds with
        | true => match quiet p.E M r.F o with
          | some v => sameA v r.v
          | none => false
        | false => true) with
    | true => stagesOk p louds i o r rest
    | false => false
def checkGo (p : Par) (louds : List (Nat × Mem)) (stages : List (Option Nat × Mem)) (recs : T Rec) : List Oper → Nat → Bool
  | [], _ => true
  | o :: rest, i => match (match recs.get i with
      | some r => match r.w with
        | .quiet => stagesOk p louds i o r stages
        | _ => true
      | none => true) with
    | true => checkGo p louds stages recs rest (i + 1)
    | false => false
def stagesOf (M0 : Mem) : List (Nat × Mem) → List (Option Nat × Mem)
  | [] => [(none, M0)]
  | (l, M) :: r => (some l, M) :: stagesOf M0 r
theorem mem_stagesOf {M0 : Mem} : ∀ {l : List (Nat × Mem)} {st : Option Nat} {M : Mem}, (st = none ∧ M = M0 ∨ ∃ q, st = some q ∧ (q, M) ∈ l) → (st, M) ∈ stagesOf M0 l
  | [], st, M, h => by
    rcases h with ⟨rfl, rfl⟩ | ⟨q, _, h⟩
    · simp [stagesOf]
    · simp at h
  | (k, N) :: r, st, M, h => by
    simp only [stagesOf, List.mem_cons, Prod.mk.injEq]
    rcases h with ⟨rfl, rfl⟩ | ⟨q, rfl, h⟩
    · exact .inr (mem_stagesOf (.inl ⟨rfl, rfl⟩))
    · rcases List.mem_cons.1 h with e | h
      · simp only [Prod.mk.injEq] at e
        exact .inl ⟨by rw [e.1], e.2⟩
      · exact .inr (mem_stagesOf (.inr ⟨q, rfl, h⟩))
theorem stagesOk_ok {p : Par} {louds : List (Nat × Mem)} {i : Nat} {o : Oper} {r : Rec} : ∀ {l : List (Option Nat × Mem)}, stagesOk p louds i o r l = true → ∀ st M, (st, M) ∈ l → st ≠ r.st →
    allowed p.bt i st louds = true → quiet p.E M r.F o = some r.v
  | [], _, st, M, h, _, _ => by simp at h
  | (st', M') :: rest, h, st, M, hm, hne, ha => by
    simp only [stagesOk] at h
    split at h
    · rename_i h1
      rcases List.mem_cons.1 hm with e | hm
      · simp only [Prod.mk.injEq] at e
        obtain ⟨rfl, rfl⟩ := e
        rw [decide_eq_false hne] at h1
        simp only [ha] at h1
        split at h1
        · rename_i v hv
          rw [hv, sameA_ok _ _ h1]
        · cases h1
      · exact stagesOk_ok h st M hm hne ha
    · cases h
theorem checkGo_ok {p : Par} {louds : List (Nat × Mem)} {stages : List (Option Nat × Mem)} {recs : T Rec} : ∀ (l : List Oper) (i : Nat), (∀ k, l[k]? = p.ops[i + k]?) → checkGo p louds stages recs l i = true →
    ∀ k o r, i ≤ k → p.ops[k]? = some o → recs.get k = some r → r.w = .quiet → stagesOk p louds k o r stages = true
  | [], i, hl, _, k, o, r, hk, ho, _, _ => by
    have := hl (k - i)
    rw [show i + (k - i) = k from by omega, ho] at this
    simp at this
  | q :: rest, i, hl, h, k, o, r, hk, ho, hr, hw => by
    simp only [checkGo] at h
    split at h
    · rename_i h1
      by_cases e : k = i
      · subst e
        have := hl 0
        simp only [Nat.add_zero, List.getElem?_cons_zero] at this
        rw [ho, Option.some.injEq] at this
        subst this
        rw [hr] at h1
        simp only [hw] at h1
        exact h1
      · exact checkGo_ok rest (i + 1) (fun k => by have := hl (k + 1); simpa [Nat.add_assoc, Nat.add_comm 1 k] using this) h k o r (by omega) ho hr hw
    · cases h
theorem allowed_of {bt : T Nat} {i : Nat} {st : Option Nat} : ∀ {l : List (Nat × Mem)}, (∀ q M, (q, M) ∈ l → (match st with | none => ahead bt q i = false | some s => (s < q → ahead bt q i = false) ∧ (q ≤ s → ahead bt i q = false))) →
    allowed bt i st l = true
  | [], _ => rfl
  | (q, M) :: r, h => by
    have h0 := h q M (by simp)
    have ih := allowed_of (l := r) (st := st) (bt := bt) (i := i) fun q M hm => h q M (by simp [hm])
    simp only [allowed]
    cases st with
    | none =>
      simp only [] at h0 ⊢
      rw [h0]
      exact ih
    | some s =>
      simp only [] at h0 ⊢
      cases hb : Nat.blt s q with
      | true =>
        have : s < q := by simpa [Nat.blt_eq] using hb
        rw [h0.1 this]
        exact ih
      | false =>
        have : q ≤ s := by
          rcases Nat.lt_or_ge s q with k | k
          · have : Nat.blt s q = true := by simpa [Nat.blt_eq] using k
            rw [this] at hb; cases hb
          · exact k
        rw [h0.2 this]
        exact ih
structure LInv (p : Par) (base : Nat) (ρ0 : Place) (w0 : World) (Ms : Mem) (M0 : Mem) (F0 : T AV) (D0 : List AD) (recs : T Rec) (listed : Nat → Prop) (ρ : Place) (st : Option Nat) (a : Act) (w : World) : Prop where
  lst : ∀ l, isLoud recs l → (listed l ↔ ∃ s, st = some s ∧ l ≤ s)
  lst2 : ∀ s, st = some s → isLoud recs s
  step : Step p.E base ρ0 w0 Ms ρ w (memAt M0 recs st)
  next : p.id0 + p.ops.size ≤ (memAt M0 recs st).next
  early : ∀ j r x, recs.get j = some r → r.w = .made x → listed j → (∀ l, isLoud recs l → listed l → ahead p.bt j l = false) →
    ∃ l, ρ (p.id0 + j) = some l ∧ BR ρ l x w ∧ w0.heap.size ≤ l.blk ∧ ∀ b y m, (memAt M0 recs st).bl.get b = some y → ρ b = some m → m.blk ≠ l.blk
  apart : ∀ j j' r r' x x' l l', recs.get j = some r → r.w = .made x → listed j → recs.get j' = some r' → r'.w = .made x' → listed j' →
    (∀ l, isLoud recs l → listed l → ahead p.bt j l = false) → (∀ l, isLoud recs l → listed l → ahead p.bt j' l = false) →
    ρ (p.id0 + j) = some l → ρ (p.id0 + j') = some l' → l.blk = l'.blk → j = j'
  absent : ∀ j r x, recs.get j = some r → r.w = .made x → ¬ listed j → ρ (p.id0 + j) = none
  size : a.tmps.size = p.n
  tmps : ∀ t, (∃ j o r, listed j ∧ p.ops[j]? = some o ∧ o.dst = some t ∧ recs.get j = some r ∧ VR ρ r.v (a.tmps.getD t undef)) ∨
    ((∀ j o, listed j → p.ops[j]? = some o → o.dst ≠ some t) ∧ VR ρ (opd F0 (.tmp t)) (a.tmps.getD t undef))
  defers : DR ρ D0 a.defers
  nodead : ∀ j r, listed j → recs.get j = some r → r.w ≠ .dead
  base : base ≤ w.heap.size
  closed : Closed p.ops listed
theorem Cons.wider {E : Env} {base : Nat} {ρ ρ' : Place} {M : Mem} {w w' : World} (hc : Cons E base ρ M w) (hle : ρ.le ρ') (hold : ∀ k, k < w.heap.size → w'.heap[k]? = w.heap[k]?) (hbase : base ≤ w.heap.size)
    (hnew : ∀ b l, ρ' b = some l → ρ b = some l ∨ (b < M.next ∧ base ≤ l.blk)) : Cons E base ρ' M w' where
  blk b x hx := let ⟨l, h1, h2⟩ := hc.blk b x hx; ⟨l, hle _ _ h1, (h2.mono hle).congr (hold _ h2.here)⟩
  inj b b' x x' l l' hx hx' hl hl' he := by
    obtain ⟨m, h1, _⟩ := hc.blk b x hx
    obtain ⟨m', h1', _⟩ := hc.blk b' x' hx'
    have e1 := hle _ _ h1
    have e2 := hle _ _ h1'
    rw [hl, Option.some.injEq] at e1
    rw [hl', Option.some.injEq] at e2
    subst e1 e2
    exact hc.inj b b' x x' l l' hx hx' h1 h1' he
  bound b l h := by
    rcases hnew b l h with h1 | h1
    · exact hc.bound b l h1
    · exact h1.1
  low b l h := by
    rcases hnew b l h with h1 | h1
    · exact hc.low b l h1
    · exact h1.2
  glob := hc.glob.mono fun k hk => hold k (by omega)
  sym := hc.sym.trans hle
section
variable {p : Par} {base : Nat} {ρ0 : Place} {w0 : World} {Ms M0 : Mem} {F0 : T AV} {D0 : List AD} {recs : T Rec} {listed : Nat → Prop} {ρ : Place} {st : Option Nat} {a : Act} {w : World}
theorem LInv.frame (h : LInv p base ρ0 w0 Ms M0 F0 D0 recs listed ρ st a w) (hS : Static p.ops p.bt) (hbt : ∀ j i, ahead p.bt j i = true → Reach p.ops j i)
    (_hrow : ∀ j o, listed j → p.ops[j]? = some o → ∃ r, recs.get j = some r) {i : Nat} {o : Oper} {r : Rec} (ho : p.ops[i]? = some o) (hi : ¬ listed i) (hready : ∀ q ∈ preds o, listed q)
    (hr : RecOK p F0 M0 recs i o r) : FR ρ r.F p.n a := by
  have hd : ∀ j, Reach p.ops j i → listed j := fun j hj => hj.mem h.closed fun o' ho' q hq => by
    rw [ho, Option.some.injEq] at ho'
    subst ho'
    exact hready q hq
  refine ⟨h.size, fun t => ?_⟩
  rcases hr.chain t with h1 | ⟨ht, hch⟩
  · simp [opd, h1, VR]
  · rcases h.tmps t with ⟨j, oj, rj, hj, hoj, hdj, hrj, hv⟩ | ⟨hno, hv⟩
    · -- a listed operation wrote it
      obtain ⟨rd1, rd2⟩ := hS.reads i o t j oj ho ht hoj hdj
      have hne : j ≠ i := fun e => by subst e; exact hi hj
      have hlt : j < i := by
        rcases Nat.lt_or_ge j i with k | k
        · exact k
        · have hij : i < j := by omega
          have := (hbt _ _ (rd2 hij)).mem h.closed (fun o' ho' q hq => h.closed j o' hj ho' q hq)
          exact absurd this hi
      rcases hch with ⟨k, ok, rk, hk, hok, hdk, hrk, hF⟩ | ⟨hnone, _⟩
      · have : k = j := hS.single k j ok oj t hok hoj hdk hdj
        subst this
        rw [hrj, Option.some.injEq] at hrk
        subst hrk
        simp only [opd, hF]
        exact hv
      · exact absurd hdj (hnone j oj hlt hoj)
    · rcases hch with ⟨k, ok, rk, hk, hok, hdk, hrk, hF⟩ | ⟨_, hF⟩
      · obtain ⟨rd1, _⟩ := hS.reads i o t k ok ho ht hok hdk
        exact absurd hdk (hno k ok (hd k (hbt _ _ (rd1 hk))) hok)
      · simp only [opd] at hv ⊢
        rw [hF]
        exact hv
theorem LInv.before (h : LInv p base ρ0 w0 Ms M0 F0 D0 recs listed ρ st a w) (hbt : ∀ j i, ahead p.bt j i = true → Reach p.ops j i)
    {i : Nat} {o : Oper} (ho : p.ops[i]? = some o) (hi : ¬ listed i) (hready : ∀ q ∈ preds o, listed q) :
    (∀ l, ahead p.bt l i = true → listed l) ∧ (∀ l, listed l → ahead p.bt i l = false) := by
  refine ⟨fun l hl => (hbt _ _ hl).mem h.closed fun o' ho' q hq => ?_, fun l hl => ?_⟩
  · rw [ho, Option.some.injEq] at ho'
    subst ho'
    exact hready q hq
  · cases hb : ahead p.bt i l with
    | false => rfl
    | true => exact absurd ((hbt _ _ hb).mem h.closed fun o' ho' q hq => h.closed l o' hl ho' q hq) hi
theorem LInv.tmpsPut (h : LInv p base ρ0 w0 Ms M0 F0 D0 recs listed ρ st a w) (_hS : Static p.ops p.bt) {i : Nat} {o : Oper} {r : Rec} (ho : p.ops[i]? = some o) (hi : ¬ listed i) (hr : recs.get i = some r)
    (hdst : ∀ d, o.dst = some d → d < p.n) {ρ' : Place} (hle : ρ.le ρ') {x : Value} (hx : VR ρ' r.v x) (t : Tmp) :
    (∃ j o' r', (listed j ∨ j = i) ∧ p.ops[j]? = some o' ∧ o'.dst = some t ∧ recs.get j = some r' ∧ VR ρ' r'.v ((a.put o.dst x).tmps.getD t undef)) ∨
    ((∀ j o', (listed j ∨ j = i) → p.ops[j]? = some o' → o'.dst ≠ some t) ∧ VR ρ' (opd F0 (.tmp t)) ((a.put o.dst x).tmps.getD t undef)) := by
  by_cases e : o.dst = some t
  · refine .inl ⟨i, o, r, .inr rfl, ho, e, hr, ?_⟩
    have : (a.put o.dst x).tmps.getD t undef = x := by
      rw [e]
      simp only [Act.put, Array.getD_eq_getD_getElem?, Array.getElem?_setIfInBounds, if_true]
      have := hdst t e
      rw [← h.size] at this
      simp [this]
    rw [this]
    exact hx
  · have hsame : (a.put o.dst x).tmps.getD t undef = a.tmps.getD t undef := by
      cases hd : o.dst with
      | none => rfl
      | some d =>
        have hne : d ≠ t := fun k => e (by rw [hd, k])
        simp only [Act.put, Array.getD_eq_getD_getElem?, Array.getElem?_setIfInBounds_ne hne]
    rw [hsame]
    rcases h.tmps t with ⟨j, oj, rj, hj, hoj, hdj, hrj, hv⟩ | ⟨hno, hv⟩
    · exact .inl ⟨j, oj, rj, .inl hj, hoj, hdj, hrj, hv.mono hle⟩
    · refine .inr ⟨fun j o' hj ho' => ?_, hv.mono hle⟩
      rcases hj with hj | rfl
      · exact hno j o' hj ho'
      · rw [ho, Option.some.injEq] at ho'
        subst ho'
        exact e
theorem Closed.add {ops : Array Oper} {listed : Nat → Prop} (h : Closed ops listed) {i : Nat} {o : Oper} (ho : ops[i]? = some o) (hready : ∀ q ∈ preds o, listed q) : Closed ops (fun j => listed j ∨ j = i) := by
  intro j o' hj ho' q hq
  rcases hj with hj | rfl
  · exact .inl (h j o' hj ho' q hq)
  · rw [ho, Option.some.injEq] at ho'
    subst ho'
    exact .inl (hready q hq)
theorem LInv.still (h : LInv p base ρ0 w0 Ms M0 F0 D0 recs listed ρ st a w) (hS : Static p.ops p.bt) {i : Nat} {o : Oper} {r : Rec} (ho : p.ops[i]? = some o) (hi : ¬ listed i) (hready : ∀ q ∈ preds o, listed q)
    (hr : recs.get i = some r) (hdst : ∀ d, o.dst = some d → d < p.n) (hnl : ∀ M, r.w ≠ .loud M) (hnm : ∀ x, r.w ≠ .made x) (hnd : r.w ≠ .dead) {x : Value} (hx : VR ρ r.v x) :
    LInv p base ρ0 w0 Ms M0 F0 D0 recs (fun j => listed j ∨ j = i) ρ st (a.put o.dst x) w := by
  have hloud : ∀ l, isLoud recs l → l ≠ i := fun l ⟨q, M, h1, h2⟩ e => by
    subst e; rw [hr, Option.some.injEq] at h1; subst h1; exact hnl M h2
  have hmade : ∀ j r' x, recs.get j = some r' → r'.w = .made x → j ≠ i := fun j r' x h1 h2 e => by
    subst e; rw [hr, Option.some.injEq] at h1; subst h1; exact hnm x h2
  refine ⟨fun l hL => ?_, h.lst2, h.step, h.next, fun j r' x h1 h2 h3 h4 => ?_, fun j j' r1 r2 x1 x2 l l' a1 a2 a3 b1 b2 b3 c1 c2 d1 d2 d3 => ?_, fun j r' x h1 h2 h3 => ?_, ?_, h.tmpsPut hS ho hi hr hdst (.refl ρ) hx, by rw [put_defers]; exact h.defers,
    fun j r' hj hr' => ?_, h.base, h.closed.add ho hready⟩
  · rw [← h.lst l hL]
    constructor
    · rintro (h1 | h1)
      · exact h1
      · exact absurd h1 (hloud l hL)
    · exact .inl
  · rcases h3 with h3 | h3
    · exact h.early j r' x h1 h2 h3 fun l hL hl => h4 l hL (.inl hl)
    · exact absurd h3 (hmade j r' x h1 h2)
  · exact h.apart j j' r1 r2 x1 x2 l l' a1 a2 (a3.resolve_right (hmade j r1 x1 a1 a2)) b1 b2 (b3.resolve_right (hmade j' r2 x2 b1 b2)) (fun l hL hl => c1 l hL (.inl hl)) (fun l hL hl => c2 l hL (.inl hl)) d1 d2 d3
  · exact h.absent j r' x h1 h2 fun k => h3 (.inl k)
  · cases o.dst with
    | none => exact h.size
    | some d => simp [Act.put, h.size]
  · rcases hj with hj | rfl
    · exact h.nodead j r' hj hr'
    · rw [hr, Option.some.injEq] at hr'; subst hr'; exact hnd
theorem LInv.make (h : LInv p base ρ0 w0 Ms M0 F0 D0 recs listed ρ st a w) (hS : Static p.ops p.bt) (hMs : Ms.next = p.id0) (_hb0 : base ≤ w0.heap.size) {i : Nat} {o : Oper} {r : Rec} (ho : p.ops[i]? = some o) (hi : ¬ listed i) (hready : ∀ q ∈ preds o, listed q)
    (hbef : ∀ l, listed l → ahead p.bt i l = false)
    (hr : recs.get i = some r) (hdst : ∀ d, o.dst = some d → d < p.n) {blk : AB} (hw : r.w = .made blk) {f : Nat → AV} (hv : r.v = f (p.id0 + i)) {res : Result Next} (hm : MadeR p.E.P ρ blk f w res) :
    ∃ x w' ρ', res = .ok (.value x) w' ∧ LInv p base ρ0 w0 Ms M0 F0 D0 recs (fun j => listed j ∨ j = i) ρ' st (a.put o.dst x) w' := by
  obtain ⟨x, w', ext, e1, e2, e3, e4, e5, e6, e7⟩ := hm.made
  have hid : ρ (p.id0 + i) = none := h.absent i r blk hr hw hi
  have hle := Place.le_upd (l := ⟨w.heap.size, 0, ext, undef⟩) hid
  obtain ⟨k1, k2⟩ := e7 (ρ.upd (p.id0 + i) ⟨w.heap.size, 0, ext, undef⟩) (p.id0 + i) hle (Place.upd_same _ _ _)
  have hi' : i < p.ops.size := by
    rcases Nat.lt_or_ge i p.ops.size with k | k
    · exact k
    · rw [Array.getElem?_eq_none k] at ho; cases ho
  have hnew : ∀ b l, ρ.upd (p.id0 + i) ⟨w.heap.size, 0, ext, undef⟩ b = some l → ρ b = some l ∨ (b = p.id0 + i ∧ l = ⟨w.heap.size, 0, ext, undef⟩) := fun b l hl => by
    by_cases e : b = p.id0 + i
    · subst e
      rw [Place.upd_same, Option.some.injEq] at hl
      exact .inr ⟨rfl, hl.symm⟩
    · rw [Place.upd_other _ _ _ _ e] at hl
      exact .inl hl
  have hw0 : w0.heap.size ≤ w.heap.size := h.step.size
  have hcons := h.step.cons
  have hnext := h.next
  have hplaced : ∀ j r' y, recs.get j = some r' → r'.w = .made y → listed j → (∀ l, isLoud recs l → listed l → ahead p.bt j l = false) → ∀ l, ρ (p.id0 + j) = some l → l.blk < w.heap.size := fun j r' y h1 h2 h3 h4 l hl => by
    obtain ⟨l', a1, a2, _⟩ := h.early j r' y h1 h2 h3 h4
    rw [hl, Option.some.injEq] at a1
    subst a1
    exact a2.here
  have hloud : ∀ l, isLoud recs l → l ≠ i := fun l ⟨q, M, h1, h2⟩ e => by
    subst e; rw [hr, Option.some.injEq] at h1; subst h1; rw [hw] at h2; cases h2
  refine ⟨x, w', _, e1, ⟨fun l hL => ?_, h.lst2, ?_, h.next, fun j r' y h1 h2 h3 h4 => ?_, fun j j' r1 r2 x1 x2 l l' a1 a2 a3 b1 b2 b3 c1 c2 d1 d2 d3 => ?_, fun j r' y h1 h2 h3 => ?_, ?_, h.tmpsPut hS ho hi hr hdst hle (by rw [hv]; exact k2),
    by rw [put_defers]; exact h.defers.mono hle, fun j r' hj hr' => ?_, by have := h.base; omega, h.closed.add ho hready⟩⟩
  · rw [← h.lst l hL]
    constructor
    · rintro (h1 | h1)
      · exact h1
      · exact absurd h1 (hloud l hL)
    · exact .inl
  · exact {
      ext := h.step.ext.trans hle
      cons := hcons.wider hle e3 h.base fun b l hl => by
        rcases hnew b l hl with h1 | ⟨h1, h2⟩
        · exact .inl h1
        · refine .inr ⟨by omega, ?_⟩
          rw [h2]
          exact h.base
      frame := fun k hk hn => by rw [e3 k (by omega)]; exact h.step.frame k hk hn
      size := by omega
      img := fun b y l hb hl => by
        rcases hnew b l hl with h1 | ⟨h1, h2⟩
        · exact h.step.img b y l hb h1
        · exact .inl (by rw [h2]; exact hw0)
      fresh := fun b l hl => by
        rcases hnew b l hl with h1 | ⟨h1, h2⟩
        · exact h.step.fresh b l h1
        · exact .inr (by omega)
      next := h.step.next
      os := e4.trans h.step.os
      tape := e5.trans h.step.tape
      output := e6.trans h.step.output }
  · rcases h3 with h3 | rfl
    · obtain ⟨l, b1, b2, b3, b4⟩ := h.early j r' y h1 h2 h3 fun l hL hl => h4 l hL (.inl hl)
      refine ⟨l, hle _ _ b1, (b2.mono hle).congr (e3 _ b2.here), b3, fun b y' m hb hm => ?_⟩
      rcases hnew b m hm with c1 | ⟨c1, c2⟩
      · exact b4 b y' m hb c1
      · rw [c2]
        have := b2.here
        show w.heap.size ≠ l.blk
        omega
    · rw [hr, Option.some.injEq] at h1
      subst h1
      rw [hw, What.made.injEq] at h2
      subst h2
      refine ⟨_, Place.upd_same _ _ _, k1, hw0, fun b y' m hb hm => ?_⟩
      obtain ⟨m', hm', hbr⟩ := hcons.blk b y' hb
      have := hle _ _ hm'
      rw [hm, Option.some.injEq] at this
      subst this
      have := hbr.here
      show m.blk ≠ w.heap.size
      omega
  · have far : ∀ j r' y, recs.get j = some r' → r'.w = .made y → listed j → (∀ l, isLoud recs l → listed l → ahead p.bt j l = false) → ∀ l, ρ.upd (p.id0 + i) ⟨w.heap.size, 0, ext, undef⟩ (p.id0 + j) = some l → ρ (p.id0 + j) = some l ∧ l.blk < w.heap.size := by
      intro j r' y h1 h2 h3 h4 l hl
      have hne : p.id0 + j ≠ p.id0 + i := fun e => by
        have : j = i := by omega
        subst this
        exact hi h3
      rw [Place.upd_other _ _ _ _ hne] at hl
      exact ⟨hl, hplaced j r' y h1 h2 h3 h4 l hl⟩
    rcases a3 with a3 | rfl <;> rcases b3 with b3 | rfl
    · obtain ⟨f1, _⟩ := far j r1 x1 a1 a2 a3 (fun l hL hl => c1 l hL (.inl hl)) l d1
      obtain ⟨f2, _⟩ := far j' r2 x2 b1 b2 b3 (fun l hL hl => c2 l hL (.inl hl)) l' d2
      exact h.apart j j' r1 r2 x1 x2 l l' a1 a2 a3 b1 b2 b3 (fun l hL hl => c1 l hL (.inl hl)) (fun l hL hl => c2 l hL (.inl hl)) f1 f2 d3
    · obtain ⟨_, f1⟩ := far j r1 x1 a1 a2 a3 (fun l hL hl => c1 l hL (.inl hl)) l d1
      rw [Place.upd_same, Option.some.injEq] at d2
      subst d2
      simp only [] at d3
      omega
    · obtain ⟨_, f2⟩ := far j' r2 x2 b1 b2 b3 (fun l hL hl => c2 l hL (.inl hl)) l' d2
      rw [Place.upd_same, Option.some.injEq] at d1
      subst d1
      simp only [] at d3
      omega
    · rfl
  · have hne : p.id0 + j ≠ p.id0 + i := fun e => h3 (.inr (by omega))
    rw [Place.upd_other _ _ _ _ hne]
    exact h.absent j r' y h1 h2 fun k => h3 (.inl k)
  · cases o.dst with
    | none => exact h.size
    | some d => simp [Act.put, h.size]
  · rcases hj with hj | rfl
    · exact h.nodead j r' hj hr'
    · rw [hr, Option.some.injEq] at hr'; subst hr'; rw [hw]; simp
theorem LInv.pre (h : LInv p base ρ0 w0 Ms M0 F0 D0 recs listed ρ st a w) {i : Nat} {Mp : Mem} (hpre : PreOK p M0 recs i st Mp)
    (hbef : ∀ l, ahead p.bt l i = true → listed l) (_haft : ∀ l, listed l → ahead p.bt i l = false) (hlt : ∀ l, isLoud recs l → listed l → l < i) :
    Cons p.E base ρ Mp w ∧ ∀ b x l, Mp.bl.get b = some x → ρ b = some l →
      ((memAt M0 recs st).bl.get b = some x ∨ ∃ j r, b = p.id0 + j ∧ recs.get j = some r ∧ r.w = .made x ∧ listed j ∧ ahead p.bt j i = true ∧ (∀ l, isLoud recs l → listed l → ahead p.bt j l = false) ∧ w0.heap.size ≤ l.blk) := by
  have hcons := h.step.cons
  have key : ∀ b x, Mp.bl.get b = some x → ((memAt M0 recs st).bl.get b = some x ∧ ∃ l, ρ b = some l ∧ BR ρ l x w) ∨
      ∃ j r l, b = p.id0 + j ∧ recs.get j = some r ∧ r.w = .made x ∧ listed j ∧ ahead p.bt j i = true ∧ (∀ l, isLoud recs l → listed l → ahead p.bt j l = false) ∧ ρ b = some l ∧ BR ρ l x w ∧ w0.heap.size ≤ l.blk ∧
        ∀ b y m, (memAt M0 recs st).bl.get b = some y → ρ b = some m → m.blk ≠ l.blk := by
    intro b x hb
    rcases (hpre.get b x).1 hb with ⟨j, hbj, hj, hja, ⟨r, hr1, hr2⟩, hno⟩ | ⟨_, h2⟩
    · have hl := hbef j hja
      have hno' : ∀ l, isLoud recs l → listed l → ahead p.bt j l = false := fun l hL hll => hno l (hlt l hL hll) hL
      obtain ⟨l, e1, e2, e3, e4⟩ := h.early j r x hr1 hr2 hl hno'
      exact .inr ⟨j, r, l, hbj, hr1, hr2, hl, hja, hno', by rw [hbj]; exact e1, e2, e3, e4⟩
    · obtain ⟨l, e1, e2⟩ := hcons.blk b x h2
      exact .inl ⟨h2, l, e1, e2⟩
  refine ⟨⟨fun b x hb => ?_, fun b b' x x' l l' hb hb' hl hl' he => ?_, fun b l hl => by rw [hpre.next]; exact hcons.bound b l hl, hcons.low, hcons.glob, hcons.sym⟩, fun b x l hb hl => ?_⟩
  · rcases key b x hb with ⟨_, h2⟩ | ⟨j, r, l, _, _, _, _, _, _, h1, h2, _⟩
    · exact h2
    · exact ⟨l, h1, h2⟩
  · rcases key b x hb with ⟨k1, _⟩ | ⟨j, r, m, e0, e1, e2, e3, _, e4, e5, e6, e7, e8⟩ <;> rcases key b' x' hb' with ⟨k1', _⟩ | ⟨j', r', m', e0', e1', e2', e3', _, e4', e5', e6', e7', e8'⟩
    · exact hcons.inj b b' x x' l l' k1 k1' hl hl' he
    · rw [hl', Option.some.injEq] at e5'
      subst e5'
      exact absurd he (e8' b x l k1 hl)
    · rw [hl, Option.some.injEq] at e5
      subst e5
      exact absurd he.symm (e8 b' x' l' k1' hl')
    · have := h.apart j j' r r' x x' l l' e1 e2 e3 e1' e2' e3' e4 e4' (by rw [← e0]; exact hl) (by rw [← e0']; exact hl') he
      rw [e0, e0', this]
  · rcases key b x hb with ⟨k1, _⟩ | ⟨j, r, m, e0, e1, e2, e3, ea, e4, e5, e6, e7, e8⟩
    · exact .inl k1
    · rw [hl, Option.some.injEq] at e5
      subst e5
      exact .inr ⟨j, r, e0, e1, e2, e3, ea, e4, e7⟩
theorem LInv.loudStep (h : LInv p base ρ0 w0 Ms M0 F0 D0 recs listed ρ st a w) {i : Nat} {Mp M' : Mem} (hpre : PreOK p M0 recs i st Mp)
    (hbef : ∀ l, ahead p.bt l i = true → listed l) (haft : ∀ l, listed l → ahead p.bt i l = false) (hlt : ∀ l, isLoud recs l → listed l → l < i) {ρ' : Place} {w' : World} (k : Step p.E base ρ w Mp ρ' w' M') :
    Step p.E base ρ0 w0 Ms ρ' w' M' := by
  obtain ⟨_, hin⟩ := h.pre hpre hbef haft hlt
  have hw0 := h.step.size
  refine {
    ext := h.step.ext.trans k.ext
    cons := k.cons
    frame := fun q hq hn => ?_
    size := Nat.le_trans hw0 k.size
    img := fun b x l hb hl => ?_
    fresh := fun b l hl => ?_
    next := Nat.le_trans h.step.next (by rw [← hpre.next]; exact k.next)
    os := k.os.trans h.step.os
    tape := k.tape.trans h.step.tape
    output := k.output.trans h.step.output }
  · rw [k.frame q (by omega) ?_, h.step.frame q hq hn]
    intro b x l hb hl e
    rcases hin b x l hb hl with h1 | ⟨j, r, _, _, _, _, _, _, h2⟩
    · rcases h.step.img b x l h1 hl with h3 | ⟨b0, x0, l0, a1, a2, a3⟩
      · omega
      · exact hn b0 x0 l0 a1 a2 (a3.trans e)
    · omega
  · rcases k.img b x l hb hl with h1 | ⟨b0, x0, l0, a1, a2, a3⟩
    · exact .inl (by omega)
    · rcases hin b0 x0 l0 a1 a2 with h1 | ⟨j, r, _, _, _, _, _, _, h2⟩
      · rcases h.step.img b0 x0 l0 h1 a2 with h3 | ⟨b1, x1, l1, c1, c2, c3⟩
        · exact .inl (by omega)
        · exact .inr ⟨b1, x1, l1, c1, c2, c3.trans a3⟩
      · exact .inl (by omega)
  · rcases k.fresh b l hl with h1 | h1
    · exact h.step.fresh b l h1
    · refine .inr (Nat.le_trans h.step.next ?_)
      rw [← hpre.next]; exact h1
theorem LInv.loud (h : LInv p base ρ0 w0 Ms M0 F0 D0 recs listed ρ st a w) (hS : Static p.ops p.bt) {i : Nat} {o : Oper} {r : Rec} (ho : p.ops[i]? = some o) (hi : ¬ listed i) (hready : ∀ q ∈ preds o, listed q)
    (hr : recs.get i = some r) (hdst : ∀ d, o.dst = some d → d < p.n) {M' Mp : Mem} (hw : r.w = .loud M') (hpre : PreOK p M0 recs i st Mp)
    (hbef : ∀ l, ahead p.bt l i = true → listed l) (haft : ∀ l, listed l → ahead p.bt i l = false) (hlt : ∀ l, isLoud recs l → listed l → l < i) (hgt : ∀ l, isLoud recs l → ¬ listed l → i ≤ l) (hlen : ∀ k, p.ops.size ≤ k → recs.get k = none)
    {ρ' : Place} {w' : World} (k : Step p.E base ρ w Mp ρ' w' M') {x : Value} (hx : VR ρ' r.v x) :
    LInv p base ρ0 w0 Ms M0 F0 D0 recs (fun j => listed j ∨ j = i) ρ' (some i) (a.put o.dst x) w' := by
  obtain ⟨hcp, hin⟩ := h.pre hpre hbef haft hlt
  have hLi : isLoud recs i := ⟨r, M', hr, hw⟩
  have hmem : memAt M0 recs (some i) = M' := by
    simp only [memAt, hr]
    obtain ⟨rF, rv, rw', rst⟩ := r
    simp only at hw
    subst hw
    rfl
  have hmade : ∀ j r' x, recs.get j = some r' → r'.w = .made x → j ≠ i := fun j r' x h1 h2 e => by
    subst e; rw [hr, Option.some.injEq] at h1; subst h1; rw [hw] at h2; cases h2
  have hst := h.loudStep hpre hbef haft hlt k
  have hnx := h.next
  -- an early block that the operation does not see
  have keep : ∀ j r' y, recs.get j = some r' → r'.w = .made y → listed j → (∀ l, isLoud recs l → (listed l ∨ l = i) → ahead p.bt j l = false) →
      ∃ l, ρ (p.id0 + j) = some l ∧ BR ρ' l y w' ∧ w0.heap.size ≤ l.blk ∧ ∀ b y m, M'.bl.get b = some y → ρ' b = some m → m.blk ≠ l.blk := by
    intro j r' y h1 h2 h3 h4
    obtain ⟨l, e1, e2, e3, e4⟩ := h.early j r' y h1 h2 h3 fun l hL hl => h4 l hL (.inl hl)
    have hja : ahead p.bt j i = false := h4 i hLi (.inr rfl)
    have hne : ∀ b z m, Mp.bl.get b = some z → ρ b = some m → m.blk ≠ l.blk := by
      intro b z m hb hm
      rcases hin b z m hb hm with c1 | ⟨j', q, c0, c1, c2, c3, c4, c5, _⟩
      · exact e4 b z m c1 hm
      · intro he
        have := h.apart j' j q r' z y m l c1 c2 c3 h1 h2 h3 c5 (fun l hL hl => h4 l hL (.inl hl)) (by rw [← c0]; exact hm) e1 he
        subst this
        rw [c4] at hja; cases hja
    refine ⟨l, e1, (e2.mono k.ext).congr (k.frame _ e2.here fun b z m hb hm => hne b z m hb hm), e3, fun b z m hb hm => ?_⟩
    rcases k.img b z m hb hm with c1 | ⟨b0, z0, m0, c1, c2, c3⟩
    · have := e2.here; omega
    · rw [← c3]; exact hne b0 z0 m0 c1 c2
  refine ⟨fun l hL => ?_, fun s hs => ?_, by rw [hmem]; exact hst, ?_, fun j r' y h1 h2 h3 h4 => ?_, fun j j' r1 r2 x1 x2 l l' a1 a2 a3 b1 b2 b3 c1 c2 d1 d2 d3 => ?_, fun j r' y h1 h2 h3 => ?_, ?_,
    h.tmpsPut hS ho hi hr hdst k.ext hx, by rw [put_defers]; exact h.defers.mono k.ext, fun j r' hj hr' => ?_, Nat.le_trans h.base k.size, h.closed.add ho hready⟩
  · constructor
    · rintro (h1 | rfl)
      · exact ⟨i, rfl, Nat.le_of_lt (hlt l hL h1)⟩
      · exact ⟨l, rfl, Nat.le_refl _⟩
    · rintro ⟨s, hs, hls⟩
      simp only [Option.some.injEq] at hs
      subst hs
      by_cases e : l = i
      · exact .inr e
      · left
        refine Classical.byContradiction fun hnl => ?_
        have := hgt l hL hnl
        omega
  · simp only [Option.some.injEq] at hs
    subst hs
    exact hLi
  · rw [hmem]
    have := k.next
    rw [hpre.next] at this
    omega
  · have h3' := h3.resolve_right (hmade j r' y h1 h2)
    obtain ⟨l, e1, e2, e3, e4⟩ := keep j r' y h1 h2 h3' h4
    exact ⟨l, k.ext _ _ e1, e2, e3, by rw [hmem]; exact e4⟩
  · have a3' := a3.resolve_right (hmade j r1 x1 a1 a2)
    have b3' := b3.resolve_right (hmade j' r2 x2 b1 b2)
    obtain ⟨m, e1, _⟩ := h.early j r1 x1 a1 a2 a3' fun l hL hl => c1 l hL (.inl hl)
    obtain ⟨m', e1', _⟩ := h.early j' r2 x2 b1 b2 b3' fun l hL hl => c2 l hL (.inl hl)
    have f1 := k.ext _ _ e1
    have f2 := k.ext _ _ e1'
    rw [d1, Option.some.injEq] at f1
    rw [d2, Option.some.injEq] at f2
    subst f1 f2
    exact h.apart j j' r1 r2 x1 x2 l l' a1 a2 a3' b1 b2 b3' (fun l hL hl => c1 l hL (.inl hl)) (fun l hL hl => c2 l hL (.inl hl)) e1 e1' d3
  · have hnone := h.absent j r' y h1 h2 fun q => h3 (.inl q)
    have hj : j < p.ops.size ∨ p.ops.size ≤ j := Nat.lt_or_ge _ _
    cases hq : ρ' (p.id0 + j) with
    | none => rfl
    | some l =>
      exfalso
      rcases k.fresh _ _ hq with e1 | e1
      · rw [hnone] at e1; cases e1
      · rw [hpre.next] at e1
        rcases hj with hj | hj
        · omega
        · rw [hlen j hj] at h1; cases h1
  · cases o.dst with
    | none => exact h.size
    | some d => simp [Act.put, h.size]
  · rcases hj with hj | rfl
    · exact h.nodead j r' hj hr'
    · rw [hr, Option.some.injEq] at hr'; subst hr'; rw [hw]; simp
end
end Go.Proofs.YtkeibmkcgnppeaaGreatDoor.Rx

/- A reflective evaluator of the model's code, part D: quiet operations on values that bear addresses. -/
import Derived.Test.YtiamenedboifeabGreatDoorRxC
namespace Go.Proofs.YtiamenedboifeabGreatDoor.Rx
open Go.Instr

def offBy (p : AV) (k : Nat) : Option AV :=
  match p with
  | .ptr b off => some (.ptr b (off + k))
  | _ => none

theorem addr_add (b o k : Nat) : (⟨b, o, none⟩ : Addr).add k = ⟨b, o + k, none⟩ := Addr.add_mid b o k

def fieldAddrA (P : Program) (s : TypeId) (p : AV) (f : Nat) : Option AV :=
  match P.underlying s with
  | some (.struct fs) => match fs[f]? with
    | some fd => match P.info? fd.type with
      | some i => match i.size with
        | 0 => none
        | _ + 1 => offBy p fd.offset
      | none => none
    | none => none
  | _ => none

theorem fieldAddrA_ok {P : Program} {ρ : Place} {s : TypeId} {p v : AV} {x : Value} {f : Nat} (hp : VR ρ p x) (h : fieldAddrA P s p f = some v) (w : World) :
    ∃ y, (fieldAt s x f).run P w = .ok y w ∧ VR ρ v y := by
  unfold fieldAddrA at h
  split at h
  · rename_i fs hfs
    split at h
    · rename_i fd hfd
      split at h
      · rename_i i hi
        split at h
        · cases h
        · rename_i n hn
          unfold offBy at h
          split at h
          · rename_i b off
            simp only [Option.some.injEq] at h
            subst h
            simp only [VR] at hp
            obtain ⟨l, hl, rfl⟩ := hp
            refine ⟨.pointer (some ⟨l.blk, l.off + off + fd.offset, none⟩), ?_, ?_⟩
            · simp [fieldAt, run_underlying hfs, hfd, sureAddr, fieldPlace, run_sizeOf hi, hn, addr_add]
            · simp only [VR]
              exact ⟨l, hl, by rw [Nat.add_assoc]⟩
          · cases h
      · cases h
    · cases h
  · cases h

def fieldA (P : Program) (t : TypeId) (x : AV) (f : Nat) : Option AV :=
  match P.underlying t with
  | some (.struct fs) => match fs[f]? with
    | some fd => match x with
      | .agg cs => partA P fd.type cs fd.offset
      | _ => none
    | none => none
  | _ => none

theorem fieldA_ok {P : Program} {ρ : Place} {t : TypeId} {p v : AV} {x : Value} {f : Nat} (hp : VR ρ p x) (h : fieldA P t p f = some v) (w : World) :
    ∃ y, (Instr.field t x f).run P w = .ok y w ∧ VR ρ v y := by
  unfold fieldA at h
  split at h
  · rename_i fs hfs
    split at h
    · rename_i fd hfd
      split at h
      · rename_i cs
        simp only [VR] at hp
        obtain ⟨xs, rfl, hxs⟩ := hp
        obtain ⟨y, hy, hv⟩ := partA_ok hxs h w
        exact ⟨y, by simp [Instr.field, run_underlying hfs, hfd, asAgg, hy], hv⟩
      · cases h
    · cases h
  · cases h

def indexAddrA (P : Program) (t : TypeId) (x i : AV) : Option AV :=
  match i with
  | .lit (.int _ n) => match P.underlying t with
    | some (.array len e) => match P.info? e with
      | some inf => cond (decide (0 ≤ n) && decide (n < len)) (offBy x (n.toNat * inf.size)) none
      | none => none
    | some (.slice e) => match P.info? e with
      | some inf => match x with
        | .slice b off len _ _ => cond (decide (0 ≤ n) && decide (n < len)) (some (.ptr b (off + n.toNat * inf.size))) none
        | _ => none
      | none => none
    | _ => none
  | _ => none

theorem indexAddrA_ok {P : Program} {ρ : Place} {t : TypeId} {p i v : AV} {x y : Value} (hp : VR ρ p x) (hi : VR ρ i y) (h : indexAddrA P t p i = some v) (w : World) :
    ∃ z, (indexAt t x y).run P w = .ok z w ∧ VR ρ v z := by
  unfold indexAddrA at h
  split at h
  · rename_i k n
    simp only [VR] at hi
    subst hi
    split at h
    · rename_i len e hu
      split at h
      · rename_i inf hinf
        cases hb : (decide (0 ≤ n) && decide (n < (len : Int))) with
        | false => rw [hb] at h; simp at h
        | true =>
          rw [hb] at h
          simp only [cond_true] at h
          simp only [Bool.and_eq_true, decide_eq_true_eq] at hb
          unfold offBy at h
          split at h
          · rename_i b off
            simp only [Option.some.injEq] at h
            subst h
            simp only [VR] at hp
            obtain ⟨l, hl, rfl⟩ := hp
            refine ⟨.pointer (some ⟨l.blk, l.off + off + n.toNat * inf.size, none⟩), ?_, ?_⟩
            · simp [indexAt, asIntOf, run_underlying hu, sureAddr, run_sizeOf hinf, hb, addr_add]
            · simp only [VR]
              exact ⟨l, hl, by rw [Nat.add_assoc]⟩
          · cases h
      · cases h
    · rename_i e hu
      split at h
      · rename_i inf hinf
        split at h
        · rename_i b off len cap esz
          cases hb : (decide (0 ≤ n) && decide (n < (len : Int))) with
          | false => rw [hb] at h; simp at h
          | true =>
            rw [hb] at h
            simp only [cond_true, Option.some.injEq] at h
            simp only [Bool.and_eq_true, decide_eq_true_eq] at hb
            subst h
            simp only [VR] at hp
            obtain ⟨l, c, hl, rfl, _⟩ := hp
            refine ⟨.pointer (some ⟨l.blk, l.off + off + n.toNat * inf.size, none⟩), ?_, ?_⟩
            · simp [indexAt, asIntOf, run_underlying hu, run_sizeOf hinf, hb, addr_add]
            · simp only [VR]
              exact ⟨l, hl, by rw [Nat.add_assoc]⟩
        · cases h
      · cases h
    · cases h
  · cases h

def indexA (P : Program) (t : TypeId) (x i : AV) : Option AV :=
  match i with
  | .lit (.int _ n) => match P.underlying t with
    | some (.array len e) => match P.info? e with
      | some inf => match x with
        | .agg cs => cond (decide (0 ≤ n) && decide (n < len)) (partA P e cs (n.toNat * inf.size)) none
        | _ => none
      | none => none
    | _ => none
  | _ => none

theorem indexA_ok {P : Program} {ρ : Place} {t : TypeId} {p i v : AV} {x y : Value} (hp : VR ρ p x) (hi : VR ρ i y) (h : indexA P t p i = some v) (w : World) :
    ∃ z, (Instr.index t x y).run P w = .ok z w ∧ VR ρ v z := by
  unfold indexA at h
  split at h
  · rename_i k n
    simp only [VR] at hi
    subst hi
    split at h
    · rename_i len e hu
      split at h
      · rename_i inf hinf
        split at h
        · rename_i cs
          cases hb : (decide (0 ≤ n) && decide (n < (len : Int))) with
          | false => rw [hb] at h; simp at h
          | true =>
            rw [hb] at h
            simp only [cond_true] at h
            simp only [Bool.and_eq_true, decide_eq_true_eq] at hb
            simp only [VR] at hp
            obtain ⟨xs, rfl, hxs⟩ := hp
            obtain ⟨z, hz, hv⟩ := partA_ok hxs h w
            exact ⟨z, by simp [Instr.index, asIntOf, run_underlying hu, run_sizeOf hinf, hb, hz], hv⟩
        · cases h
      · cases h
    · cases h
  · cases h

/-! Slicing. -/

/-- A bound of a slice expression: none at all, or a literal that is no less than nought. -/
def boundA (F : T AV) (x : Option Operand) (dflt : Nat) : Option Nat :=
  match x with
  | none => some dflt
  | some y => match opd F y with
    | .lit (.int _ n) => match n with
      | .ofNat k => some k
      | .negSucc _ => none
    | _ => none

def sliceA (P : Program) (F : T AV) (t : TypeId) (x : AV) (lo hi : Option Operand) : Option AV :=
  match P.underlying t with
  | some (.slice e) => match P.info? e with
    | some inf => match x with
      | .slice b off len cap esz =>
        match boundA F hi len with
        | some h => match boundA F lo 0 with
          | some l => match cap with
            | some c => cond (Nat.ble h c && Nat.ble l h) (some (.slice b (cond (Nat.beq c l) off (off + l * inf.size)) (h - l) (some (c - l)) esz)) none
            | none => cond (Nat.ble h len && Nat.ble l h && Nat.beq esz inf.size)
                (cond (Nat.blt l len) (some (.slice b (off + l * inf.size) (h - l) none esz)) (cond (Nat.beq l 0) (some (.slice b off h none esz)) (some .eslice))) none
          | none => none
        | none => none
      | _ => none
    | none => none
  | some (.array n e) => match P.info? e with
    | some inf => match x with
      | .ptr b off =>
        match boundA F hi n with
        | some h => match boundA F lo 0 with
          | some l => cond (Nat.ble h n && Nat.ble l h) (some (.slice b (cond (Nat.beq n l) off (off + l * inf.size)) (h - l) (some (n - l)) inf.size)) none
          | none => none
        | none => none
      | _ => none
    | none => none
  | _ => none

theorem boundA_ok {P : Program} {ρ : Place} {F : T AV} {n : Nat} {a : Act} (hf : FR ρ F n a) {x : Option Operand} {d k : Nat} (h : boundA F x d = some k) (y : Nat) (code : BoundsCode) (hk : k ≤ y) (w : World) :
    (match x.map a.eval with
      | some v => (sliceBound v y code).run P w = .ok k w
      | none => k = d) := by
  cases x with
  | none => simp only [boundA, Option.some.injEq] at h; exact h.symm
  | some z =>
    simp only [boundA] at h
    have he := hf.eval z
    revert h he
    generalize opd F z = q
    intro h he
    split at h
    · rename_i kk n
      split at h
      · rename_i m
        simp only [Option.some.injEq] at h
        subst h
        simp only [VR] at he
        simp only [Option.map_some, he]
        have h1 : (0 : Int) ≤ Int.ofNat m := Int.natCast_nonneg m
        have h2 : (Int.ofNat m) ≤ (y : Int) := by simpa using hk
        simp only [sliceBound, asIntOf, Sem.run_bind, Sem.run_pure, Result.andThen_ok, h1, h2, and_self, if_true]
        rfl
      · cases h
    · cases h

theorem sliceBounds_ok {P : Program} {ρ : Place} {F : T AV} {n : Nat} {a : Act} (hf : FR ρ F n a) {lo hi : Option Operand} {h l len cap : Nat} (b : Bool)
    (hh : boundA F hi len = some h) (hl : boundA F lo 0 = some l) (h1 : h ≤ cap) (h2 : l ≤ h) (w : World) :
    (sliceBounds b len cap (lo.map a.eval) (hi.map a.eval) none).run P w = .ok (l, h, cap) w := by
  have k1 := boundA_ok (P := P) hf hh cap (if b then .sliceAcap else .sliceAlen) h1 w
  have k2 := boundA_ok (P := P) hf hl h .sliceB h2 w
  unfold sliceBounds
  cases hi with
  | none =>
    simp only [Option.map_none] at k1
    subst k1
    cases lo with
    | none =>
      simp only [Option.map_none] at k2
      subst k2
      simp
    | some y => simp only [Option.map_some] at k2; simp [k2]
  | some x =>
    simp only [Option.map_some] at k1
    cases lo with
    | none =>
      simp only [Option.map_none] at k2
      subst k2
      simp [k1]
    | some y => simp only [Option.map_some] at k2; simp [k1, k2]

theorem sliceA_ok {P : Program} {ρ : Place} {F : T AV} {n : Nat} {a : Act} (hf : FR ρ F n a) {t : TypeId} {p v : AV} {x : Value} {lo hi : Option Operand} (hp : VR ρ p x)
    (h : sliceA P F t p lo hi = some v) (w : World) :
    ∃ z, (Instr.sliceAt t x (lo.map a.eval) (hi.map a.eval) none).run P w = .ok z w ∧ VR ρ v z := by
  unfold sliceA at h
  split at h
  · rename_i e hu
    split at h
    · rename_i inf hinf
      split at h
      · rename_i b off len cap esz
        split at h
        · rename_i hh hhh
          split at h
          · rename_i l hl
            simp only [VR] at hp
            obtain ⟨lc, c, hlc, rfl, hcap⟩ := hp
            split at h
            · rename_i c'
              cases hb : (Nat.ble hh c' && Nat.ble l hh) with
              | false => rw [hb] at h; simp at h
              | true =>
                rw [hb] at h
                simp only [cond_true, Option.some.injEq] at h
                simp only [Bool.and_eq_true, Nat.ble_eq] at hb
                subst h
                simp only at hcap
                subst hcap
                have hs := sliceBounds_ok (P := P) hf true hhh hl hb.1 hb.2 w
                refine ⟨.slice (some (if c = l then ⟨lc.blk, lc.off + off, none⟩ else ⟨lc.blk, lc.off + off + l * inf.size, none⟩)) (hh - l) (c - l), ?_, ?_⟩
                · simp only [Instr.sliceAt, Sem.run_bind, run_underlying hu, Result.andThen_ok, Instr.slice, hs, run_sizeOf hinf, Sem.run_pure]
                  by_cases e : c = l <;> simp [e, addr_add]
                · simp only [VR]
                  refine ⟨lc, c - l, hlc, ?_, rfl⟩
                  by_cases e : c = l
                  · simp [e]
                  · have : Nat.beq c l = false := by
                      cases hq : Nat.beq c l with
                      | false => rfl
                      | true => exact absurd (Nat.eq_of_beq_eq_true hq) e
                    simp [e, this, Nat.add_assoc]
            · rename_i _
              cases hb : (Nat.ble hh len && Nat.ble l hh && Nat.beq esz inf.size) with
              | false => rw [hb] at h; simp at h
              | true =>
                rw [hb] at h
                simp only [cond_true] at h
                simp only [Bool.and_eq_true, Nat.ble_eq] at hb
                obtain ⟨⟨hb1, hb2⟩, hb3⟩ := hb
                have hesz : esz = inf.size := Nat.eq_of_beq_eq_true hb3
                simp only at hcap
                have hs := sliceBounds_ok (P := P) (cap := c) hf true hhh hl (by omega) hb2 w
                have hrun : (Instr.sliceAt t (.slice (some ⟨lc.blk, lc.off + off, none⟩) len c) (lo.map a.eval) (hi.map a.eval) none).run P w =
                    .ok (.slice (some (if c = l then ⟨lc.blk, lc.off + off, none⟩ else ⟨lc.blk, lc.off + off + l * inf.size, none⟩)) (hh - l) (c - l)) w := by
                  simp only [Instr.sliceAt, Sem.run_bind, run_underlying hu, Result.andThen_ok, Instr.slice, hs, run_sizeOf hinf, Sem.run_pure]
                  by_cases e : c = l <;> simp [e, addr_add]
                refine ⟨_, hrun, ?_⟩
                cases hlt : Nat.blt l len with
                | true =>
                  rw [hlt] at h
                  simp only [cond_true, Option.some.injEq] at h
                  subst h
                  have hlt' : l < len := by simpa [Nat.blt_eq] using hlt
                  simp only [VR]
                  refine ⟨lc, c - l, hlc, ?_, by omega, ?_⟩
                  · rw [if_neg (by omega)]; simp [Nat.add_assoc]
                  · rw [hesz] at hcap ⊢
                    have : (c - l) * inf.size + l * inf.size = c * inf.size := by rw [← Nat.add_mul]; congr 1; omega
                    omega
                | false =>
                  rw [hlt] at h
                  simp only [cond_false] at h
                  have hge : len ≤ l := by
                    rcases Nat.lt_or_ge l len with k | k
                    · have : Nat.blt l len = true := by simpa [Nat.blt_eq] using k
                      rw [this] at hlt; cases hlt
                    · exact k
                  have hll : l = len := by omega
                  have hhl : hh = len := by omega
                  cases h0 : Nat.beq l 0 with
                  | true =>
                    rw [h0] at h
                    simp only [cond_true, Option.some.injEq] at h
                    subst h
                    have h0' : l = 0 := Nat.eq_of_beq_eq_true h0
                    simp only [VR]
                    refine ⟨lc, c, hlc, ?_, by omega, hcap.2⟩
                    rw [h0']
                    by_cases e : c = 0 <;> simp [e]
                  | false =>
                    rw [h0] at h
                    simp only [cond_false, Option.some.injEq] at h
                    subst h
                    simp only [VR]
                    exact ⟨_, _, by rw [hhl, hll, Nat.sub_self]⟩
          · cases h
        · cases h
      · cases h
    · cases h
  · rename_i m e hu
    split at h
    · rename_i inf hinf
      split at h
      · rename_i b off
        split at h
        · rename_i hh hhh
          split at h
          · rename_i l hl
            simp only [VR] at hp
            obtain ⟨lc, hlc, rfl⟩ := hp
            cases hb : (Nat.ble hh m && Nat.ble l hh) with
            | false => rw [hb] at h; simp at h
            | true =>
              rw [hb] at h
              simp only [cond_true, Option.some.injEq] at h
              simp only [Bool.and_eq_true, Nat.ble_eq] at hb
              subst h
              have hs := sliceBounds_ok (P := P) hf false hhh hl hb.1 hb.2 w
              refine ⟨.slice (some (if m = l then ⟨lc.blk, lc.off + off, none⟩ else ⟨lc.blk, lc.off + off + l * inf.size, none⟩)) (hh - l) (m - l), ?_, ?_⟩
              · simp only [Instr.sliceAt, Sem.run_bind, run_underlying hu, Result.andThen_ok, sureAddr, Sem.run_pure, hs, run_sizeOf hinf]
                by_cases e : m = l <;> simp [e, addr_add]
              · simp only [VR]
                refine ⟨lc, m - l, hlc, ?_, rfl⟩
                by_cases e : m = l
                · simp [e]
                · have : Nat.beq m l = false := by
                    cases hq : Nat.beq m l with
                    | false => rfl
                    | true => exact absurd (Nat.eq_of_beq_eq_true hq) e
                  simp [e, this, Nat.add_assoc]
          · cases h
        · cases h
      · cases h
    · cases h
  · cases h

end Go.Proofs.YtiamenedboifeabGreatDoor.Rx

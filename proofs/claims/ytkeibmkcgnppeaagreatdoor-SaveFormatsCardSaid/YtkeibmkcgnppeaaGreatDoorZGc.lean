/- The program s maker of a format s element. -/
import Derived.Test.YtkeibmkcgnppeaaGreatDoorZGb
import Derived.Deep.RegionHeld3
import Derived.Deep.DrawnRows
import Derived.Deep.DeepCutAuto
import Derived.Deep.RegionLaw
namespace Go.Proofs.YtkeibmkcgnppeaaGreatDoor
open Go Go.RowKit
set_option maxRecDepth 100000
attribute [local go_sem ↓] Go.wp_at_zero Go.wp_at_succ
theorem run_store_flt {P : Program} {w : World} {a : Addr} {m : Mode} (k : FloatKind) (b : Nat) : (store a (.float k b) m).run P w = stored P w a (.float k b) m := run_store P w a _ m rfl
attribute [local go_sem] run_store_flt
theorem row_as {w : World} {b : Nat} {nn : Int} (h : w.heap[b]? = some (.cells #[.string styleSpace, .string ⟨#[110, 97, 109, 101]⟩, .string (⟨#[78]⟩ ++ ⟨(Lib.itoa nn).toArray⟩)] 62 (0, 0))) :
    w.heap[b]? = some (.cells #[.string styleSpace, .string ⟨#[110, 97, 109, 101]⟩, .string (styleName nn)] 62 (0, 0)) := h
set_option maxHeartbeats 20000000 in
theorem fmt9 {W : World} {H L : Nat → Nat} {F : FmtIn} (hF : F.OK W H L) (nn : Int) (hn0 : 0 ≤ nn) (hn1 : nn ≤ 9223372036854775807) (w : World) (hw : Later W w) :
    Calls Tryz.prog 9 #[F.arg, .int .i64 nn] w (NodeRet0 w (fmtTree F nn)) := by
  have Hchk := Lib.hid hF.chk
  have HF := Lib.hid hF
  have Hw := Lib.hid hw
  have hs49 := size49
  have hs62 := size62
  unfold FmtIn.arg at Hchk ⊢
  have hk8 : (F.k : Int) < 8 := by have := hF.k7; omega
  have hk0 : (0 : Int) ≤ (F.k : Int) := by omega
  have hsn := Lib.itoa_length_le nn (by omega) hn1
  clear hw hF
  go_enter Tryz.func9, Tryz.ntmps9
  go_upto_region 7 with (go_at_call 18; refine ((Hchk.out _ (by repeat first | exact Hw.out | apply Later.alloc)).1.mono ?_); rintro e w1 ⟨rfl, hb1⟩; obtain ⟨g1, g2, hb2, hsz⟩ := two_blocks hb1; clear hb1)
  go_cut [8] (fun s8 wx => ∃ b8, s8 = .pointer (some ⟨b8, 0, none⟩) ∧ Head w wx F b8 [(styleSpace, ⟨#[110, 97, 109, 101]⟩, styleName nn)])
  case first =>
    --<A
    have nc : (w1.alloc (Obj.cells #[Value.string ⟨#[110, 117, 109, 98, 101, 114, 45, 115, 116, 121, 108, 101]⟩, Value.string ⟨#[110, 117, 109, 98, 101, 114, 45, 115, 116, 121, 108, 101]⟩, Value.string ⟨#[112, 101, 114, 99, 101, 110, 116, 97, 103, 101, 45, 115, 116, 121, 108, 101]⟩, Value.string ⟨#[99, 117, 114, 114, 101, 110, 99, 121, 45, 115, 116, 121, 108, 101]⟩, Value.string ⟨#[100, 97, 116, 101, 45, 115, 116, 121, 108, 101]⟩, Value.string ⟨#[116, 105, 109, 101, 45, 115, 116, 121, 108, 101]⟩, Value.string ⟨#[116, 101, 120, 116, 45, 115, 116, 121, 108, 101]⟩, Value.string ⟨#[98, 111, 111, 108, 101, 97, 110, 45, 115, 116, 121, 108, 101]⟩] 59)).cell? ⟨w1.heap.size, F.k, none⟩ = some (.string (kname F.k)) :=
      kname_cell (heap_alloc_new _ _) HF.out.k7
    have hb4 := hb2.alloc (B := w.heap.size) (by omega) (Obj.cells #[Value.string ⟨#[110, 117, 109, 98, 101, 114, 45, 115, 116, 121, 108, 101]⟩, Value.string ⟨#[110, 117, 109, 98, 101, 114, 45, 115, 116, 121, 108, 101]⟩, Value.string ⟨#[112, 101, 114, 99, 101, 110, 116, 97, 103, 101, 45, 115, 116, 121, 108, 101]⟩, Value.string ⟨#[99, 117, 114, 114, 101, 110, 99, 121, 45, 115, 116, 121, 108, 101]⟩, Value.string ⟨#[100, 97, 116, 101, 45, 115, 116, 121, 108, 101]⟩, Value.string ⟨#[116, 105, 109, 101, 45, 115, 116, 121, 108, 101]⟩, Value.string ⟨#[116, 101, 120, 116, 45, 115, 116, 121, 108, 101]⟩, Value.string ⟨#[98, 111, 111, 108, 101, 97, 110, 45, 115, 116, 121, 108, 101]⟩] 59)
    generalize hW2 : w1.alloc _ = W2 at nc hb4 ⊢
    have f0 : W2.heap[w.heap.size]? = some (.cells #[.int .i64 F.k, .slice F.pa F.n F.pc, .slice F.qa F.m F.qc, .bool F.wh] 40 (0, 0)) := by rw [← hW2, heap_alloc_old]; exact g1; omega
    have r0 : W2.heap[w.heap.size + 1]? = some (.cells #[.bool false, .string ⟨#[]⟩, .string ⟨#[]⟩, .string ⟨#[]⟩, .slice none 0 0, .slice none 0 0] 49 (0, 0)) := by rw [← hW2, heap_alloc_old]; exact g2; omega
    have hs2 : W2.heap.size = w1.heap.size + 1 := by rw [← hW2]; simp
    have kc : W2.cell? ⟨w.heap.size, 0, none⟩ = some (.int .i64 F.k) := by simp [World.cell?, f0]
    have kcd : W2.drew.cell? ⟨w.heap.size, 0, none⟩ = some (.int .i64 F.k) := kc
    have ncd : W2.drew.cell? ⟨w1.heap.size, F.k, none⟩ = some (.string (kname F.k)) := nc
    have Hl2 := Lib.hid (Hw.out.below hb4)
    have hq1 : ¬ 9223372036854775807 < 1 + (Lib.itoa nn).length := by omega
    have F0 := Lib.hid f0
    have R0 := Lib.hid r0
    have Hb4 := Lib.hid hb4
    clear hW2 g1 g2 hb2 hb4 f0 r0
    go_region_held3 (fun w' => w'.cell? ⟨w.heap.size, 0, none⟩ = some (.int .i64 F.k) ∧ w'.cell? ⟨w1.heap.size, F.k, none⟩ = some (.string (kname F.k)))
      (refine ⟨?_, ?_⟩ <;> (repeat first | with_reducible exact kc | with_reducible exact nc | with_reducible exact kcd | with_reducible exact ncd | rw [drew_cell] | rw [alloc_cell _ (by simp; omega)] | rw [set6_cell _ _ _ _ _ _ (by first | (simp; omega) | simp)] | rw [hb7.cell (by simp; omega)] | rw [hb6.cell (by simp; omega)] | rw [hb5.cell (by simp; omega)]))
      (first
        | (go_at_call 21; refine (save_digits nn (by omega) hn1 _ (HF.out.g.num.later (by repeat first | exact Hl2.out | apply Later.drew | apply Later.alloc))).mono ?_; rintro e w5 ⟨rfl, hb5⟩; have B5 : Below W2.heap.size W2 w5 := (by first | exact hb5 | exact below_ad hb5 | exact below_d hb5 | exact below_a hb5); have hs5 : W2.heap.size ≤ w5.heap.size := by (have := hb5.size; (try simp at this); omega)
           first
            | (have z5 := last_kept_d hb5; (try simp only [size_alloc', hs2] at z5); obtain ⟨⟨z5c0, z5c1, z5c2, z5c3, z5c4, z5c5⟩, z5f0, z5f1, z5f2, z5f3, z5f4, z5f5⟩ := six_at z5)
            | (have z5 := last_kept hb5; (try simp only [size_alloc', hs2] at z5); obtain ⟨⟨z5c0, z5c1, z5c2, z5c3, z5c4, z5c5⟩, z5f0, z5f1, z5f2, z5f3, z5f4, z5f5⟩ := six_at z5)
            | skip)
        | (go_at_call 20; refine (at_call _ _ _ _).mono ?_; rintro e w6 ⟨rfl, hb6⟩; unfold attr; have B6 : Below w5.heap.size w5 w6 := (by first | exact hb6 | exact below_a hb6); have hs6 : w5.heap.size ≤ w6.heap.size := by (have := hb6.size; (try simp at this); omega)
           first
            | (have z6 := last_kept hb6; (try simp only [size_alloc', hs2] at z6); obtain ⟨⟨z6c0, z6c1, z6c2, z6c3, z6c4, z6c5⟩, z6f0, z6f1, z6f2, z6f3, z6f4, z6f5⟩ := six_at z6)
            | (have z6 := (hb6.block _ (by have := lt_of_some z5; simp; omega)).trans z5; (try simp only [size_alloc', hs2] at z6); obtain ⟨⟨z6c0, z6c1, z6c2, z6c3, z6c4, z6c5⟩, z6f0, z6f1, z6f2, z6f3, z6f4, z6f5⟩ := six_at z6)
            | skip)
        | (go_at_call 19; refine (el_call _ _ _ _ _ _).mono ?_; rintro e w7 ⟨rfl, hb7⟩; have B7 : Below w6.heap.size w6 w7 := (by first | exact hb7 | exact below_aa hb7 | exact below_a hb7); have hs7 : w6.heap.size ≤ w7.heap.size := by (have := hb7.size; (try simp at this); omega)
           first
            | (have z7 := (hb7.block _ (by have := lt_of_some z6; simp; omega)).trans (alloc_kept z6); (try simp only [size_alloc', hs2] at z7); obtain ⟨⟨z7c0, z7c1, z7c2, z7c3, z7c4, z7c5⟩, z7f0, z7f1, z7f2, z7f3, z7f4, z7f5⟩ := six_at z7)
            | skip
           first
            | (have y7 := last_kept hb7; (try simp only [size_alloc', hs2] at y7))
            | skip
           first
            | (have x7 := last_kept2 hb7; (try simp only [size_alloc', hs2] at x7))
            | skip
           first
            | (have q7 := six_at y7; obtain ⟨⟨y7c0, y7c1, y7c2, y7c3, y7c4, y7c5⟩, y7f0, y7f1, y7f2, y7f3, y7f4, y7f5⟩ := q7)
            | (have q7 := six_at x7; obtain ⟨⟨x7c0, x7c1, x7c2, x7c3, x7c4, x7c5⟩, x7f0, x7f1, x7f2, x7f3, x7f4, x7f5⟩ := q7)
            | skip))
    all_goals (
      go_wp2_with fail
      go_meet
      have B : Below W2.heap.size W2 w7 := B5.trans ((B6.mono hs5).trans (B7.mono (Nat.le_trans hs5 hs6)))
      have hb : Below w.heap.size w w7 := Hb4.out.trans (B.mono Hb4.out.size)
      have f := (B.block w.heap.size (by omega)).trans F0.out
      have r := (B.block (w.heap.size + 1) (by omega)).trans R0.out
      first
        | (have y := row_as y7; with_reducible exact ⟨_, rfl, head_alloc rfl hb f r (by omega) y⟩)
        | (have y := row_as y7; with_reducible exact ⟨_, rfl, head_set' rfl hb f r (by omega) z7 (by omega) y⟩)
        | (have y := row_as x7; with_reducible exact ⟨_, rfl, head_set' rfl hb f r (by omega) y7 (by omega) y⟩)
        | (have y := row_as y7; with_reducible exact ⟨_, rfl, head_set' rfl hb f r (by omega) x7 (by omega) y⟩)
)
    --A>
  case rest =>
  obtain ⟨b8, rfl, hH⟩ := hcut
  obtain ⟨i62, hi62, hz62, hs62', hy62⟩ := info_parts info62
  obtain ⟨i49, hi49, hz49, hs49', hy49⟩ := info_parts info49
  -- the title
  obtain ⟨g, cap, hx, hne, hown⟩ := id hH.x
  have kc : wc.cell? ⟨w.heap.size, 0, none⟩ = some (.int .i64 F.k) := by simp [World.cell?, hH.f]
  have ac : wc.cell? ⟨b8, 4, none⟩ = some (.slice (some ⟨g, 0, none⟩) 1 cap) := by simp [World.cell?, hx]
  have hwc : w.heap.size + 2 ≤ wc.heap.size := lt_of_some hH.r
  have hlt8 := lt_of_some hx
  have hgB : w.heap.size + 2 ≤ g := (hown.lt g rfl).1
  have HH := Lib.hid hH
  have Hx := Lib.hid hx
  have Hown := Lib.hid hown
  clear hH hx hown
  go_upto_if 36 with fail
  generalize ht : ((F.k : Int) == 0) = t
  have Ht := Lib.hid ht
  clear ht
  go_cut [] (fun wx => Head w wx F b8 ([(styleSpace, ⟨#[110, 97, 109, 101]⟩, styleName nn)] ++ titled F.k))
  case first =>
    --<B
    cases t with
    | true =>
      go_wp2_with fail
      go_region_law (first
        | (go_simp; go_at_call 22; refine (num_call _ _ _).mono ?_; rintro e w5 ⟨rfl, hb5⟩; unfold attr; have ac5 := ((below_d hb5).cell (p := ⟨b8, 4, none⟩) hlt8).trans ac; have ac5a := fun o => (alloc_cell (w := w5) (a := ⟨b8, 4, none⟩) o (Nat.lt_of_lt_of_le hlt8 (below_d hb5).size)).trans ac5)
        | (refine step_append_lies _ (by rfl) _ _ _ (by rfl) (w.heap.size + 2) 62 i62 _ 3 48 Tryz.underlying46 hi62 hz62 hs62' hy62 rfl (by omega) (.slice (some ⟨g, 0, none⟩) 1 cap) 1 _ (by rfl) (owns_call Hown.out (below_d hb5) _) ⟨w5.heap.size, 0, none⟩ 1 1 [.string dataSpace, .string ⟨#[116, 105, 116, 108, 101]⟩, .string ⟨#[71, 101, 110, 101, 114, 97, 108]⟩] (by rfl) (by rfl) (World.news_of_block (cs := #[.string dataSpace, .string ⟨#[116, 105, 116, 108, 101]⟩, .string ⟨#[71, 101, 110, 101, 114, 97, 108]⟩]) (t := 62) (fr := (0, 0)) (heap_alloc_new w5 _)) (by simp [Value.oneCell']) (by omega) (by unfold maxLen; omega) (by omega) (by have := (below_d hb5).size; simp; omega) (w5.heap.size + 1) (by simp) ?_; intro g' cap' w6 hown6 hgrow hat hlt; have x6 := far_block (below_d hb5) hgrow Hx.out (fun e => hne (by simpa [Value.ownBlock] using e.symm)); have q6 := six_at x6; obtain ⟨⟨x6c0, x6c1, x6c2, x6c3, x6c4, x6c5⟩, x6f0, x6f1, x6f2, x6f3, x6f4, x6f5⟩ := q6))
      all_goals (
        go_wp2_with fail
        go_meet
        rw [titled_pos (show F.k = 0 by have := Ht.out; simpa using this)]
        exact HH.out.next Hx.out hne (by omega) (below_d hb5) hown6 hgrow hat)
    | false =>
      go_wp2_with fail
      go_meet
      rw [titled_neg (show ¬ F.k = 0 by have := Ht.out; simpa using this)]
      exact HH.out
    --B>
  case rest =>
  have HA := Lib.hid hcut
  clear hcut HH Hx Hown kc ac hne hlt8 hwc hgB Ht
  clear g cap
  have hAl := titled_len F.k (styleSpace, ⟨#[110, 97, 109, 101]⟩, styleName nn)
  generalize hA : ([(styleSpace, (⟨#[110, 97, 109, 101]⟩ : ByteArray), styleName nn)] ++ titled F.k) = A at HA hAl
  have HAe := Lib.hid hA
  clear hA
  obtain ⟨g, cap, hx, hne, hown⟩ := HA.out.x
  have hgB : w.heap.size + 2 ≤ g := (hown.lt g rfl).1
  have wc4 : wc.cell? ⟨w.heap.size, 3, none⟩ = some (.bool F.wh) := by simp [World.cell?, HA.out.f]
  have ac : wc.cell? ⟨b8, 4, none⟩ = some (.slice (some ⟨g, 0, none⟩) A.length cap) := by simp [World.cell?, hx]
  have hlt8 := lt_of_some hx
  have hwc : w.heap.size + 2 ≤ wc.heap.size := lt_of_some HA.out.r
  have Hx := Lib.hid hx
  have Hown := Lib.hid hown
  clear hx hown
  go_upto_if 44 with fail
  generalize hwh : F.wh = t2 at wc4 ⊢
  have Hwh := Lib.hid hwh
  clear hwh
  go_cut [] (fun wx => Head w wx F b8 (A ++ whole t2))
  case first =>
    --<C
    cases t2 with
    | true =>
      go_wp2_with fail
      go_region_law (first
        | (go_simp; go_at_call 22; refine (num_call _ _ _).mono ?_; rintro e w5 ⟨rfl, hb5⟩; unfold attr; have ac5 := ((below_d hb5).cell (p := ⟨b8, 4, none⟩) hlt8).trans ac; have ac5a := fun o => (alloc_cell (w := w5) (a := ⟨b8, 4, none⟩) o (Nat.lt_of_lt_of_le hlt8 (below_d hb5).size)).trans ac5)
        | (refine step_append_lies _ (by rfl) _ _ _ (by rfl) (w.heap.size + 2) 62 i62 _ 3 48 Tryz.underlying46 hi62 hz62 hs62' hy62 rfl (by omega) (.slice (some ⟨g, 0, none⟩) A.length cap) A.length _ (by rfl) (owns_call Hown.out (below_d hb5) _) ⟨w5.heap.size, 0, none⟩ 1 1 [.string dataSpace, .string ⟨#[116, 114, 117, 110, 99, 97, 116, 101, 45, 111, 110, 45, 111, 118, 101, 114, 102, 108, 111, 119]⟩, .string ⟨#[102, 97, 108, 115, 101]⟩] (by rfl) (by rfl) (World.news_of_block (cs := #[.string dataSpace, .string ⟨#[116, 114, 117, 110, 99, 97, 116, 101, 45, 111, 110, 45, 111, 118, 101, 114, 102, 108, 111, 119]⟩, .string ⟨#[102, 97, 108, 115, 101]⟩]) (t := 62) (fr := (0, 0)) (heap_alloc_new w5 _)) (by simp [Value.oneCell']) (by omega) (by unfold maxLen; omega) (by omega) (by have := (below_d hb5).size; simp; omega) (w5.heap.size + 1) (by simp) ?_; intro g' cap' w6 hown6 hgrow hat hlt; have x6 := far_block (below_d hb5) hgrow Hx.out (fun e => hne (by simpa [Value.ownBlock] using e.symm)); have q6 := six_at x6; obtain ⟨⟨x6c0, x6c1, x6c2, x6c3, x6c4, x6c5⟩, x6f0, x6f1, x6f2, x6f3, x6f4, x6f5⟩ := q6))
      all_goals (
        go_wp2_with fail
        go_meet
        exact HA.out.next Hx.out hne (by omega) (below_d hb5) hown6 hgrow hat)
    | false =>
      go_wp2_with fail
      go_meet
      rw [show whole false = [] from rfl, List.append_nil]
      exact HA.out
    --C>
  case rest =>
  have HB := Lib.hid hcut
  clear hcut HA Hx Hown wc4 ac hne hlt8 hwc hgB
  clear g cap
  obtain ⟨g, cap, hx, hne, hown⟩ := HB.out.x
  have Hown := Lib.hid hown
  have Hne := Lib.hid hne
  obtain ⟨va, hva⟩ : ∃ va, va = Value.slice (some ⟨g, 0, none⟩) (A ++ whole t2).length cap := ⟨_, rfl⟩
  rw [← hva] at hx
  have Hva := Lib.hid hva
  clear hva hown hne
  have k1 : wc.cell? ⟨w.heap.size, 1, none⟩ = some (.slice F.pa F.n F.pc) := by simp [World.cell?, HB.out.f]
  have Hst := Lib.hid (Acc.start hx)
  have HX := Lib.hid hx
  clear hx
  generalize hpa : F.pa = pa at k1 ⊢
  have Hpa := Lib.hid hpa
  clear hpa
  go_wp2_with fail
  clear k1
  go_loopw [54] (fun i wr => ∃ (j : Nat) (v : Value) (cs : List Value), j ≤ F.n ∧ i = .int .i64 j ∧ Acc wc b8 dataSpace (kname F.k) va v cs ((List.range j).map F.pt) wr) (fun i _ => F.n - (intOf i).toNat)
  case atStart => exact ⟨0, _, _, Nat.zero_le _, rfl, Hst.out⟩
  case round =>
    obtain ⟨j, v, cs, hj, rfl, hacc⟩ := hrel
    have Hacc := Lib.hid hacc
    clear hacc
    have hn64 := HF.out.n64
    rcases Nat.lt_or_ge j F.n with hlt | hge
    · --<D
      obtain ⟨pb, off, hp, hpb, hr⟩ := HF.out.pcell j hlt
      have hp2 := Hpa.out.symm.trans hp
      subst hp2
      have hl := Hacc.out.later Hw.out HB.out
      obtain ⟨p0, p1, p2, p3, p4, p5, p6⟩ := seven_at (hl.range hpb hr)
      clear hp hr
      have Hl := Lib.hid hl
      clear hl
      go_wp2_with fail
      clear p0 p1 p2 p3 p4 p5 p6
      generalize hwz : wr.alloc _ = wz
      have bz : Below wr.heap.size wr wz := by rw [← hwz]; exact (Below.refl _ _).alloc (Nat.le_refl _) _
      have z10 : wz.heap[wr.heap.size]? = some (.cells #[.int .i64 (F.PD j).kd, .string (F.PD j).tx, .int .i64 (F.PD j).mn, .int .i64 (F.PD j).pl, .int .i64 (F.PD j).ex, .bool (F.PD j).gr, .bool (F.PD j).lo] 67 (0, 0)) := by rw [← hwz]; exact heap_alloc_new _ _
      clear hwz
      have Az := Lib.hid (Hacc.out.keep bz)
      have Lz := Lib.hid (Hl.out.below bz)
      obtain ⟨p0, p1, p2, p3, p4, p5, p6⟩ := seven_row z10
      have kz : wz.cell? ⟨w.heap.size, 0, none⟩ = some (.int .i64 F.k) := by simp [World.cell?, Az.out.box HB.out]
      have xz : wz.cell? ⟨b8, 5, none⟩ = some v := by simp [World.cell?, Az.out.x]
      have lz8 := lt_of_some Az.out.x
      have lzc := Az.out.size
      clear bz z10
      go_region_law (first
        | (go_simp; go_at_call 23; refine ((HF.out.pnode j hlt wz.drew Lz.out).1.mono ?_); rintro e w5 ⟨el, tx, sp, lc, q1, r1, s1, q2, r2, s2, rfl, hnode, hb5⟩; have xz5 := ((below_d hb5).cell (p := ⟨b8, 5, none⟩) lz8).trans xz; have xz5a := fun o => (alloc_cell (w := w5) (a := ⟨b8, 5, none⟩) o (Nat.lt_of_lt_of_le lz8 (below_d hb5).size)).trans xz5)
        | (refine step_append_lies _ (by rfl) _ _ _ (by rfl) wc.heap.size 49 i49 _ 6 104 Tryz.underlying47 hi49 hz49 hs49' hy49 rfl (by omega) v j cs (by rfl) (owns_call (kids_own Az.out) (below_d hb5) _) ⟨w5.heap.size, 0, none⟩ 1 1 [.bool el, .string tx, .string sp, .string lc, .slice q1 r1 s1, .slice q2 r2 s2] (by rfl) (by rfl) (World.news_of_block (cs := #[.bool el, .string tx, .string sp, .string lc, .slice q1 r1 s1, .slice q2 r2 s2]) (t := 49) (fr := (0, 0)) (heap_alloc_new w5 _)) (by simp [Value.oneCell']) (by omega) (by unfold maxLen; omega) (by omega) (by have := (below_d hb5).size; simp; omega) (w5.heap.size + 1) (by simp) ?_; intro g' cap' w6 hown6 hgrow hat hlt6; have x6 := far_block (below_d hb5) hgrow Az.out.x (own_far Az.out); have q6 := six_at x6; obtain ⟨⟨x6c0, x6c1, x6c2, x6c3, x6c4, x6c5⟩, x6f0, x6f1, x6f2, x6f3, x6f4, x6f5⟩ := q6))
      all_goals (
        go_wp2_with fail
        exact ⟨acc_round Az.out hlt hb5 hnode hown6 hgrow hat, round_measure hlt⟩)
      --D>
    · obtain rfl : j = F.n := by omega
      have k2 : wr.cell? ⟨w.heap.size, 2, none⟩ = some (.slice F.qa F.m F.qc) := by simp [World.cell?, Hacc.out.box HB.out]
      generalize hqa : F.qa = qa at k2 ⊢
      have Hqa := Lib.hid hqa
      clear hqa hge
      have k2a := fun o => (alloc_cell (w := wr) (a := ⟨w.heap.size, 2, none⟩) o (World.block_lt_of_cell? wr _ k2)).trans k2
      go_wp2_with fail
      generalize hwd : wr.alloc _ = wd
      have bd : Below wr.heap.size wr wd := by rw [← hwd]; exact (Below.refl _ _).alloc (Nat.le_refl _) _
      have Hsg := Lib.hid (show wd.heap[wr.heap.size]? = some (.cells #[.string ⟨#[61]⟩, .string ⟨#[33, 61]⟩, .string ⟨#[60]⟩, .string ⟨#[60, 61]⟩, .string ⟨#[62]⟩, .string ⟨#[62, 61]⟩] 69 (0, 0)) by rw [← hwd]; exact heap_alloc_new _ _)
      have Hd := Lib.hid (Hacc.out.keep bd)
      clear hwd bd k2 k2a Hacc
      generalize wr.heap.size = sg at Hsg ⊢
      go_loopw [72] (fun i wr => ∃ (j : Nat) (v : Value) (cs : List Value), j ≤ F.m ∧ i = .int .i64 j ∧ Acc wc b8 dataSpace (kname F.k) va v cs ((List.range F.n).map F.pt ++ (List.range j).map fun j => mapTree (F.MD j)) wr ∧
        wr.heap[sg]? = some (.cells #[.string ⟨#[61]⟩, .string ⟨#[33, 61]⟩, .string ⟨#[60]⟩, .string ⟨#[60, 61]⟩, .string ⟨#[62]⟩, .string ⟨#[62, 61]⟩] 69 (0, 0))) (fun i _ => F.m - (intOf i).toNat)
      case atStart => exact ⟨0, _, _, Nat.zero_le _, rfl, by rw [List.range_zero, List.map_nil, List.append_nil]; exact Hd.out, Hsg.out⟩
      case round =>
        obtain ⟨j, v, cs, hj, rfl, hacc, hsg⟩ := hrel
        have Hacc := Lib.hid hacc
        have Hsg2 := Lib.hid hsg
        clear hacc hsg Hd Hsg
        have hm8 := HF.out.m8
        rcases Nat.lt_or_ge j F.m with hlt | hge
        · --<E
          obtain ⟨pb, off, hp, hpb, hr⟩ := HF.out.qcell j hlt
          have hp2 := Hqa.out.symm.trans hp
          subst hp2
          have hl := Hacc.out.later Hw.out HB.out
          obtain ⟨p0, p1, p2⟩ := three_at (hl.range hpb hr)
          clear hp hr
          have Hl := Lib.hid hl
          clear hl
          go_wp2_with fail
          clear p0 p1 p2
          generalize hwz : wr.alloc _ = wz
          have bz : Below wr.heap.size wr wz := by rw [← hwz]; exact (Below.refl _ _).alloc (Nat.le_refl _) _
          have z10 : wz.heap[wr.heap.size]? = some (.cells #[.int .i64 (18 + (F.MD j).o), .float .f64 (F.MD j).vl, .int .i64 (F.MD j).ap] 71 (0, 0)) := by rw [← hwz]; exact heap_alloc_new _ _
          have hwzs : wz.heap.size = wr.heap.size + 1 := by rw [← hwz]; simp
          clear hwz
          have Az := Lib.hid (Hacc.out.keep bz)
          have Lz := Lib.hid (Hl.out.below bz)
          have hsz := (bz.block sg (lt_of_some Hsg2.out)).trans Hsg2.out
          have o6 := HF.out.op j hlt
          have sz := sign_cell hsz o6
          obtain ⟨p0, p1, p2⟩ := three_row z10
          have xz : wz.cell? ⟨b8, 5, none⟩ = some v := by simp [World.cell?, Az.out.x]
          have lz8 := lt_of_some Az.out.x
          have lzs := lt_of_some hsz
          have lzc := Az.out.size
          obtain ⟨u1, u2⟩ := other_own Az.out (by decide) hsz
          obtain ⟨u3, u4⟩ := other_own Az.out (by decide) z10
          have hw18 := wrap_sub18 (F.MD j).o o6
          have ho0 : (0 : Int) ≤ ((F.MD j).o : Int) := by omega
          have ho1 : ((F.MD j).o : Int) < 6 := by omega
          obtain ⟨t600, tx24, _⟩ := HF.out.qtx j hlt
          have sl2 := sign_len (F.MD j).o
          obtain ⟨ap0, ap1⟩ := HF.out.ap j hlt
          have al := Lib.itoa_length_le (F.MD j).ap ap0 ap1
          have hq1 : ¬ 9223372036854775807 < 7 + (sign (F.MD j).o).size := by omega
          have hq2 : ¬ 9223372036854775807 < 7 + (sign (F.MD j).o).size + (F.MD j).tx.size := by omega
          have hq3 : ¬ 9223372036854775807 < 1 + (Lib.itoa (F.MD j).ap).length := by omega
          have Tx := Lib.hid tx24
          have Hsz := Lib.hid hsz
          clear bz z10 tx24 hsz
          have xzd : wz.drew.cell? ⟨b8, 5, none⟩ = some v := xz
          have d0 : wz.drew.cell? ⟨wr.heap.size, 0, none⟩ = some (.int .i64 (18 + (F.MD j).o)) := p0
          have d1 : wz.drew.cell? ⟨wr.heap.size, 1, none⟩ = some (.float .f64 (F.MD j).vl) := p1
          have d2 : wz.drew.cell? ⟨wr.heap.size, 2, none⟩ = some (.int .i64 (F.MD j).ap) := p2
          have d3 : wz.drew.cell? ⟨sg, (F.MD j).o, none⟩ = some (.string (sign (F.MD j).o)) := sz
          have own0 := kids_own2 (n := F.n) Az.out (by simp)
          have far8 := own_far Az.out
          refine wp_region_noPanic ?_
          refine wp_region_tail (S := fun w' => w'.cell? ⟨b8, 5, none⟩ = some v ∧ w'.cell? ⟨wr.heap.size, 0, none⟩ = some (.int .i64 (18 + (F.MD j).o)) ∧ w'.cell? ⟨wr.heap.size, 1, none⟩ = some (.float .f64 (F.MD j).vl) ∧ w'.cell? ⟨wr.heap.size, 2, none⟩ = some (.int .i64 (F.MD j).ap) ∧ w'.cell? ⟨sg, (F.MD j).o, none⟩ = some (.string (sign (F.MD j).o))) (tail := fun i => Nat.ble 23 i) (by kernel_rfl) ⟨xzd, d0, d1, d2, d3⟩ (fun hHeld => ?_)
          refine wpAnyT_take (i := 0) (v := ?_) rfl (by kernel_rfl) (by kernel_rfl) (by kernel_rfl) (by kernel_rfl) (fun _ _ _ h => h) (Or.inl ⟨by rfl, ?_⟩) (by assumption) ?_
          rotate_left; · (intro w hSw; (try dsimp only at hSw); go_simp; try with_reducible rfl)
          (try simp only [Act.put, List.setIfInBounds_toArray, List.set_cons_zero, List.set_cons_succ])
          refine wpAnyT_take (i := 1) (v := ?_) rfl (by kernel_rfl) (by kernel_rfl) (by kernel_rfl) (by kernel_rfl) (fun _ _ _ h => h) (Or.inl ⟨by rfl, ?_⟩) (by assumption) ?_
          rotate_left; · (intro w hSw; (try dsimp only at hSw); go_simp; try with_reducible rfl)
          (try simp only [Act.put, List.setIfInBounds_toArray, List.set_cons_zero, List.set_cons_succ])
          refine wpAnyT_take (i := 2) (v := ?_) rfl (by kernel_rfl) (by kernel_rfl) (by kernel_rfl) (by kernel_rfl) (fun _ _ _ h => h) (Or.inl ⟨by rfl, ?_⟩) (by assumption) ?_
          rotate_left; · (intro w hSw; (try dsimp only at hSw); go_simp; try with_reducible rfl)
          (try simp only [Act.put, List.setIfInBounds_toArray, List.set_cons_zero, List.set_cons_succ])
          refine wpAnyT_take (i := 3) (v := ?_) rfl (by kernel_rfl) (by kernel_rfl) (by kernel_rfl) (by kernel_rfl) (fun _ _ _ h => h) (Or.inl ⟨by rfl, ?_⟩) (by assumption) ?_
          rotate_left; · (intro w hSw; (try dsimp only at hSw); go_simp; try with_reducible rfl)
          (try simp only [Act.put, List.setIfInBounds_toArray, List.set_cons_zero, List.set_cons_succ])
          refine wpAnyT_take (i := 4) (v := ?_) rfl (by kernel_rfl) (by kernel_rfl) (by kernel_rfl) (by kernel_rfl) (fun _ _ _ h => h) (Or.inl ⟨by rfl, ?_⟩) (by assumption) ?_
          rotate_left; · (intro w hSw; (try dsimp only at hSw); go_simp; try with_reducible rfl)
          (try simp only [Act.put, List.setIfInBounds_toArray, List.set_cons_zero, List.set_cons_succ])
          refine wpAnyT_take (i := 5) (v := ?_) rfl (by kernel_rfl) (by kernel_rfl) (by kernel_rfl) (by kernel_rfl) (fun _ _ _ h => h) (Or.inl ⟨by rfl, ?_⟩) (by assumption) ?_
          rotate_left; · (intro w hSw; (try dsimp only at hSw); go_simp; try with_reducible rfl)
          (try simp only [Act.put, List.setIfInBounds_toArray, List.set_cons_zero, List.set_cons_succ])
          refine wpAnyT_take (i := 6) (v := ?_) rfl (by kernel_rfl) (by kernel_rfl) (by kernel_rfl) (by kernel_rfl) (fun _ _ _ h => h) (Or.inl ⟨by rfl, ?_⟩) (by assumption) ?_
          rotate_left; · (intro w hSw; (try dsimp only at hSw); go_simp; try with_reducible rfl)
          (try simp only [Act.put, List.setIfInBounds_toArray, List.set_cons_zero, List.set_cons_succ])
          refine wpAnyT_take (i := 7) (v := ?_) rfl (by kernel_rfl) (by kernel_rfl) (by kernel_rfl) (by kernel_rfl) (fun _ _ _ h => h) (Or.inl ⟨by rfl, ?_⟩) (by assumption) ?_
          rotate_left; · (intro w hSw; (try dsimp only at hSw); go_simp; try with_reducible rfl)
          (try simp only [Act.put, List.setIfInBounds_toArray, List.set_cons_zero, List.set_cons_succ])
          refine wpAnyT_take (i := 8) (v := ?_) rfl (by kernel_rfl) (by kernel_rfl) (by kernel_rfl) (by kernel_rfl) (fun _ _ _ h => h) (Or.inl ⟨by rfl, ?_⟩) (by assumption) ?_
          rotate_left; · (intro w hSw; (try dsimp only at hSw); go_simp; try with_reducible rfl)
          (try simp only [Act.put, List.setIfInBounds_toArray, List.set_cons_zero, List.set_cons_succ])
          refine wpAnyT_take (i := 9) (v := ?_) rfl (by kernel_rfl) (by kernel_rfl) (by kernel_rfl) (by kernel_rfl) (fun _ _ _ h => h) (Or.inl ⟨by rfl, ?_⟩) (by assumption) ?_
          rotate_left; · (intro w hSw; (try dsimp only at hSw); go_simp; try with_reducible rfl)
          (try simp only [Act.put, List.setIfInBounds_toArray, List.set_cons_zero, List.set_cons_succ])
          refine wpAnyT_take (i := 13) (v := ?_) rfl (by kernel_rfl) (by kernel_rfl) (by kernel_rfl) (by kernel_rfl) (fun _ _ _ h => h) (Or.inl ⟨by rfl, ?_⟩) (by assumption) ?_
          rotate_left; · (intro w hSw; (try dsimp only at hSw); go_simp; try with_reducible rfl)
          (try simp only [Act.put, List.setIfInBounds_toArray, List.set_cons_zero, List.set_cons_succ])
          refine wpAnyT_take (i := 14) (v := ?_) rfl (by kernel_rfl) (by kernel_rfl) (by kernel_rfl) (by kernel_rfl) (fun _ _ _ h => h) (Or.inl ⟨by rfl, ?_⟩) (by assumption) ?_
          rotate_left; · (intro w hSw; (try dsimp only at hSw); go_simp; try with_reducible rfl)
          (try simp only [Act.put, List.setIfInBounds_toArray, List.set_cons_zero, List.set_cons_succ])
          refine wpAnyT_step (i := 10) (by kernel_rfl) rfl (fun K hK => ?_)
          (go_simp; go_at_call 24; refine (Tx.out _ (HF.out.g.num.later (Later.drew Lz.out))).mono ?_; rintro e w5 ⟨rfl, hb5⟩; have B5 : Below wz.heap.size wz w5 := below_d hb5; have hs5 : wz.heap.size ≤ w5.heap.size := B5.size; (try go_wp2_with fail))
          refine hK.out _ _ ?_ (fun hHeld => ?_)
          · exact ⟨cell_keep hb5 hHeld.1, cell_keep hb5 hHeld.2.1, cell_keep hb5 hHeld.2.2.1, cell_keep hb5 hHeld.2.2.2.1, cell_keep hb5 hHeld.2.2.2.2⟩
          clear hK K
          (try simp only [Act.put, List.setIfInBounds_toArray, List.set_cons_zero, List.set_cons_succ])
          refine wpAnyT_take (i := 11) (v := ?_) rfl (by kernel_rfl) (by kernel_rfl) (by kernel_rfl) (by kernel_rfl) (fun _ _ _ h => h) (Or.inl ⟨by rfl, ?_⟩) (by assumption) ?_
          rotate_left; · (intro w hSw; (try dsimp only at hSw); go_simp; try with_reducible rfl)
          (try simp only [Act.put, List.setIfInBounds_toArray, List.set_cons_zero, List.set_cons_succ])
          refine wpAnyT_step (i := 12) (by kernel_rfl) rfl (fun K hK => ?_)
          (go_simp; go_at_call 20; refine (at_call _ _ _ _).mono ?_; rintro e w6 ⟨rfl, hb6⟩; unfold attr; have hs6 : w5.heap.size ≤ w6.heap.size := hb6.size; (try go_wp2_with fail))
          refine hK.out _ _ ?_ (fun hHeld => ?_)
          · exact ⟨cell_keep hb6 hHeld.1, cell_keep hb6 hHeld.2.1, cell_keep hb6 hHeld.2.2.1, cell_keep hb6 hHeld.2.2.2.1, cell_keep hb6 hHeld.2.2.2.2⟩
          clear hK K
          (try simp only [Act.put, List.setIfInBounds_toArray, List.set_cons_zero, List.set_cons_succ])
          refine wpAnyT_step (i := 15) (by kernel_rfl) rfl (fun K hK => ?_)
          (go_simp; go_at_call 21; refine (save_digits _ ap0 ap1 _ (HF.out.g.num.later ((Lz.out.below B5).below hb6))).mono ?_; rintro e w7 ⟨rfl, hb7⟩; have hs7 : w6.heap.size ≤ w7.heap.size := hb7.size; (try go_wp2_with fail))
          refine hK.out _ _ ?_ (fun hHeld => ?_)
          · exact ⟨cell_keep hb7 hHeld.1, cell_keep hb7 hHeld.2.1, cell_keep hb7 hHeld.2.2.1, cell_keep hb7 hHeld.2.2.2.1, cell_keep hb7 hHeld.2.2.2.2⟩
          clear hK K
          (try simp only [Act.put, List.setIfInBounds_toArray, List.set_cons_zero, List.set_cons_succ])
          refine wpAnyT_take (i := 16) (v := ?_) rfl (by kernel_rfl) (by kernel_rfl) (by kernel_rfl) (by kernel_rfl) (fun _ _ _ h => h) (Or.inl ⟨by rfl, ?_⟩) (by assumption) ?_
          rotate_left; · (intro w hSw; (try dsimp only at hSw); go_simp; try with_reducible rfl)
          (try simp only [Act.put, List.setIfInBounds_toArray, List.set_cons_zero, List.set_cons_succ])
          refine wpAnyT_step (i := 17) (by kernel_rfl) rfl (fun K hK => ?_)
          (go_simp; go_at_call 20; refine (at_call _ _ _ _).mono ?_; rintro e w8 ⟨rfl, hb8⟩; unfold attr; have hs8 : w7.heap.size ≤ w8.heap.size := hb8.size; (try go_wp2_with fail))
          refine hK.out _ _ ?_ (fun hHeld => ?_)
          · exact ⟨cell_keep hb8 hHeld.1, cell_keep hb8 hHeld.2.1, cell_keep hb8 hHeld.2.2.1, cell_keep hb8 hHeld.2.2.2.1, cell_keep hb8 hHeld.2.2.2.2⟩
          clear hK K
          (try simp only [Act.put, List.setIfInBounds_toArray, List.set_cons_zero, List.set_cons_succ])
          refine wpAnyT_step (i := 18) (by kernel_rfl) rfl (fun K hK => ?_)
          go_simp
          refine hK.out _ _ ?_ (fun hHeld => ?_)
          · exact ⟨alloc_keep _ hHeld.1, alloc_keep _ hHeld.2.1, alloc_keep _ hHeld.2.2.1, alloc_keep _ hHeld.2.2.2.1, alloc_keep _ hHeld.2.2.2.2⟩
          clear hK K
          (try simp only [Act.put, List.setIfInBounds_toArray, List.set_cons_zero, List.set_cons_succ])
          refine wpAnyT_step (i := 19) (by kernel_rfl) rfl (fun K hK => ?_)
          (go_simp; go_at_call 19; refine (el_call _ _ _ _ _ _).mono ?_; rintro e w9 ⟨rfl, hb9⟩; have hb9' := below_a hb9; have hs9 : w8.heap.size ≤ w9.heap.size := hb9'.size; have B9 : Below wz.heap.size wz w9 := B5.trans ((hb6.mono (by omega)).trans ((hb7.mono (by omega)).trans ((hb8.mono (by omega)).trans (hb9'.mono (by omega))))); (try go_wp2_with fail))
          refine hK.out _ _ ?_ (fun hHeld => ?_)
          · exact ⟨cell_keep hb9 hHeld.1, cell_keep hb9 hHeld.2.1, cell_keep hb9 hHeld.2.2.1, cell_keep hb9 hHeld.2.2.2.1, cell_keep hb9 hHeld.2.2.2.2⟩
          clear hK K
          (try simp only [Act.put, List.setIfInBounds_toArray, List.set_cons_zero, List.set_cons_succ])
          refine wpAnyT_step (i := 20) (by kernel_rfl) rfl (fun K hK => ?_)
          go_simp
          refine hK.out _ _ ?_ (fun hHeld => ?_)
          · exact ⟨alloc_keep _ hHeld.1, alloc_keep _ hHeld.2.1, alloc_keep _ hHeld.2.2.1, alloc_keep _ hHeld.2.2.2.1, alloc_keep _ hHeld.2.2.2.2⟩
          clear hK K
          (try simp only [Act.put, List.setIfInBounds_toArray, List.set_cons_zero, List.set_cons_succ])
          refine wpAnyT_step (i := 21) (by kernel_rfl) rfl (fun K hK => ?_)
          (have own9 := owns_call own0 B9 (Obj.cells #[.bool true, .string ⟨#[]⟩, .string styleSpace, .string ⟨#[109, 97, 112]⟩, .slice (some ⟨w8.heap.size, 0, none⟩) 2 2, .slice none 0 0] 49); have big9 : wc.heap.size ≤ w9.heap.size + 1 := (by have := B9.size; omega); have new9 := World.news_of_block (heap_alloc_new w9 (Obj.cells #[.bool true, .string ⟨#[]⟩, .string styleSpace, .string ⟨#[109, 97, 112]⟩, .slice (some ⟨w8.heap.size, 0, none⟩) 2 2, .slice none 0 0] 49)); refine step_append_lies _ (by rfl) _ _ _ (by rfl) wc.heap.size 49 i49 _ 6 104 Tryz.underlying47 hi49 hz49 hs49' hy49 rfl (by omega) v (F.n + j) cs (by rfl) own9 ⟨w9.heap.size, 0, none⟩ 1 1 [.bool true, .string ⟨#[]⟩, .string styleSpace, .string ⟨#[109, 97, 112]⟩, .slice (some ⟨w8.heap.size, 0, none⟩) 2 2, .slice none 0 0] (by rfl) (by rfl) new9 (by simp [Value.oneCell']) (by omega) (by unfold maxLen; omega) (by omega) (by rw [size_alloc']; exact big9) (w9.heap.size + 1) (by rw [size_alloc']) ?_; intro g' cap' w10 hown10 hgrow hat hlt10; have x10 := far_block B9 hgrow Az.out.x far8; have q10 := six_at x10; obtain ⟨⟨x10c0, x10c1, x10c2, x10c3, x10c4, x10c5⟩, x10f0, x10f1, x10f2, x10f3, x10f4, x10f5⟩ := q10)
          refine hK.out _ _ ?_ (fun hHeld => ?_)
          · exact ⟨grown_keep hgrow hHeld.1 far8, grown_keep hgrow hHeld.2.1 u3, grown_keep hgrow hHeld.2.2.1 u3, grown_keep hgrow hHeld.2.2.2.1 u3, grown_keep hgrow hHeld.2.2.2.2 u1⟩
          clear hK K
          (try simp only [Act.put, List.setIfInBounds_toArray, List.set_cons_zero, List.set_cons_succ])
          refine wpAnyT_take (i := 22) (v := ?_) rfl (by kernel_rfl) (by kernel_rfl) (by kernel_rfl) (by kernel_rfl) (fun _ _ _ h => h) (Or.inl ⟨by rfl, ?_⟩) (by assumption) ?_
          rotate_left; · (intro w hSw; (try dsimp only at hSw); go_simp; try with_reducible rfl)
          (try simp only [Act.put, List.setIfInBounds_toArray, List.set_cons_zero, List.set_cons_succ])
          refine wpAnyT_last (i := 23) (by kernel_rfl) rfl rfl (fun K hK => ?_)
          go_simp
          refine hK.out _ _ ?_
          clear hK K
          (try simp only [Act.put, List.setIfInBounds_toArray, List.set_cons_zero, List.set_cons_succ])
          refine wpAnyT_done (by kernel_rfl) ?_ _
          refine NoPanic.normal ?_
          go_wp2_with fail
          have row8 := last_kept hb9
          exact ⟨acc_round2 Az.out (by simp) hlt (by decide) Hsz.out B9 (node_two (Nat.le_trans hs5 (Nat.le_trans hs6 (Nat.le_trans hs7 hs8))) row8) hown10 hgrow hat, round_measure hlt⟩
          --E>
        · obtain rfl : j = F.m := by omega
          have hlen : (A ++ whole t2).length < 4611686018427387904 := by
            have : (whole t2).length ≤ 1 := by cases t2 <;> simp [whole]
            rw [List.length_append]
            omega
          obtain rfl := Hva.out
          obtain ⟨pk, mk, rfl, hnode⟩ := node_end HB.out.lo (lt_of_some HB.out.r) Hne.out Hown.out Hacc.out hlen (by simp; omega)
          have hwc2 : w.heap.size + 2 ≤ wc.heap.size := lt_of_some HB.out.r
          have hlo := HB.out.lo
          have hrr : wr.heap[w.heap.size + 1]? = some (.cells #[.bool false, .string ⟨#[]⟩, .string ⟨#[]⟩, .string ⟨#[]⟩, .slice none 0 0, .slice none 0 0] 49 (0, 0)) := (Hacc.out.rest _ (by omega) (by omega)).trans HB.out.r
          have xl := six_at Hacc.out.x
          obtain ⟨⟨x0, x1, x2, x3, x4, x5⟩, -⟩ := xl
          have bw : Below w.heap.size w wr := HB.out.below.trans ⟨Hacc.out.os, Hacc.out.tape, Hacc.out.output, Hacc.out.size, fun k hk => Hacc.out.rest k (by omega) (by omega)⟩
          have Hrr := Lib.hid hrr
          have Hnode := Lib.hid hnode
          have Hbw := Lib.hid bw
          clear hrr hnode bw
          have yl := six_at Hrr.out
          obtain ⟨⟨y0, y1, y2, y3, y4, y5⟩, f0, f1, f2, f3, f4, f5⟩ := yl
          go_wp2_with fail
          try simp only [Exit.inBlock, Exit.then]
          refine bodyPost_ret (results_row_tmp rfl _ _ (w.heap.size + 1) 49 _ _ _ rfl (set6_block Hrr.out _ _ _ _ _ _) Tryz.underlying49 rfl size49) rfl ?_
          have hn := Hnode.out
          simp only [List.length_append, List.length_map, List.length_range] at hn
          have ht : fmtTree F nn = .mk true ⟨#[]⟩ dataSpace (kname F.k) (A ++ whole t2) ((List.range F.n).map F.pt ++ (List.range F.m).map fun j => mapTree (F.MD j)) := by
            unfold fmtTree
            rw [HAe.out, Hwh.out]
          rw [ht]
          exact ret_end hn Hbw.out
end Go.Proofs.YtkeibmkcgnppeaaGreatDoor

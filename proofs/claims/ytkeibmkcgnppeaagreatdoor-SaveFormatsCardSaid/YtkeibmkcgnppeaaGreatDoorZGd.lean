/- The document s maker of a format s element. -/
import Derived.Test.YtkeibmkcgnppeaaGreatDoorZGb
import Derived.Test.YtkeibmkcgnppeaaGreatDoorZFe
import Derived.Deep.RegionHeld3
import Derived.Deep.DrawnRows
import Derived.Deep.DeepCutAuto
namespace Go.Proofs.YtkeibmkcgnppeaaGreatDoor
open Go Go.RowKit
set_option maxRecDepth 100000
def WithRet (w : World) (el : Bool) (tx sp nm : ByteArray) (A : List (ByteArray × ByteArray × ByteArray)) (k : Value) (e : Ending) (w' : World) : Prop :=
  ∃ g cap, e = .returned (.agg #[.bool el, .string tx, .string sp, .string nm, .slice (some ⟨g, 0, none⟩) A.length cap, k]) ∧ w'.ownsRow w.heap.size 62 3 (.slice (some ⟨g, 0, none⟩) A.length cap) A.length (flat A) ∧ Below w.heap.size w w'
theorem news_at {w : World} {cs : Array Value} {t : TypeId} {H : Nat} (hH : w.heap.size = H) : ∀ j u, cs.toList[j]? = some u → (w.alloc (.cells cs t)).cell? ((⟨H, 0, none⟩ : Addr).add j) = some u := by
  subst hH
  exact World.news_of_block (heap_alloc_new w _)
theorem alloc_two0 (w : World) (o o' o'' : Obj) : (((w.alloc o).alloc o').alloc o'').heap[w.heap.size]? = some o := alloc_kept (alloc_kept (heap_alloc_new _ _))
theorem alloc_two1 (w : World) (o o' o'' : Obj) : (((w.alloc o).alloc o').alloc o'').heap[w.heap.size + 1]? = some o' := alloc_kept (heap_alloc2_new _ _ _)
theorem owns_keep' {w w' : World} {B : Nat} {e : TypeId} {sz n g cap : Nat} {xs : List Value} (h : w.ownsRow B e sz (.slice (some ⟨g, 0, none⟩) n cap) n xs) (hk : w'.heap[g]? = w.heap[g]?) : w'.ownsRow B e sz (.slice (some ⟨g, 0, none⟩) n cap) n xs := by
  refine ⟨h.1, ?_⟩
  rcases h.2 with h0 | ⟨q, cp, cur, h1, h2, h3, h4⟩
  · exact .inl h0
  · have hq : q = g := by cases h1; rfl
    exact .inr ⟨q, cp, cur, h1, h2, by rw [hq, hk, ← hq]; exact h3, h4⟩
theorem below_grow {w w1 w' : World} {row : Option Nat} (hb : Below w.heap.size w w1) (hg : w1.grownBy w' row) (hr : ∀ b, row = some b → w.heap.size ≤ b) : Below w.heap.size w w' :=
  hb.trans ⟨hg.os, hg.tape, hg.output, hg.size, fun k hk => hg.block k (Nat.lt_of_lt_of_le hk hb.size) (fun e => by have := hr k e.symm; omega)⟩
theorem src_two {w : World} {g : Nat} {xs : List Value} (h : ∀ i u, xs[i]? = some u → w.cell? ⟨g, i, none⟩ = some u) (o o' : Obj) : ∀ j u, xs[j]? = some u → ((w.alloc o).alloc o').cell? ((⟨g, 0, none⟩ : Addr).add j) = some u := by
  intro j u hu
  have hadd : (⟨g, 0, none⟩ : Addr).add j = ⟨g, j, none⟩ := by unfold Addr.add; split <;> simp_all
  rw [hadd]
  exact alloc_keep _ (alloc_keep _ (h j u hu))
theorem with_end {w w2 : World} {el : Bool} {tx sp nm : ByteArray} {A : List (ByteArray × ByteArray × ByteArray)} {p2 : Option Addr} {n2 m2 g cap n : Nat} {xs : List Value} {v4 : Value} {c0 c1 c2 c3 c4 c5 : Value} (hn : n = A.length) (hx : xs = flat A)
    (b4 : w2.heap[w.heap.size]? = some (.cells #[.bool el, .string tx, .string sp, .string nm, v4, .slice p2 n2 m2] 49 (0, 0))) (b8 : w2.heap[w.heap.size + 1]? = some (.cells #[c0, c1, c2, c3, c4, c5] 49 (0, 0)))
    (hown : w2.ownsRow w.heap.size 62 3 (.slice (some ⟨g, 0, none⟩) n cap) n xs) (hg : w.heap.size + 2 ≤ g) (hb : Below w.heap.size w w2) :
    WithRet w el tx sp nm A (.slice p2 n2 m2) (.returned (.agg #[.bool el, .string tx, .string sp, .string nm, .slice (some ⟨g, 0, none⟩) n cap, .slice p2 n2 m2]))
      (set6 (w2.setCell ⟨w.heap.size, 4, none⟩ (.slice (some ⟨g, 0, none⟩) n cap)) (w.heap.size + 1) (.bool el) (.string tx) (.string sp) (.string nm) (.slice (some ⟨g, 0, none⟩) n cap) (.slice p2 n2 m2)) := by
  subst hn hx
  refine ⟨g, cap, rfl, owns_keep' hown ?_, set6_below (set_below hb (Nat.le_refl _) _) (by omega) _ _ _ _ _ _⟩
  rw [set6_other _ _ _ _ _ _ _ (by omega), set_other _ _ _ (show g ≠ w.heap.size by omega)]
set_option maxHeartbeats 1000000 in
theorem with_none (el : Bool) (tx sp nm a b c : ByteArray) (p2 : Option Addr) (n2 m2 : Nat) (w : World) :
    Calls Tryz.prog 26 #[.agg #[.bool el, .string tx, .string sp, .string nm, .slice none 0 0, .slice p2 n2 m2], .string a, .string b, .string c] w (WithRet w el tx sp nm [(a, b, c)] (.slice p2 n2 m2)) := by
  have hs := size49
  have hs62 := size62
  obtain ⟨i62, hi62, hz62, hs62', hy62⟩ := info_parts info62
  go_enter Tryz.func26, Tryz.ntmps26
  go_wp2_with (at_builtin; refine wpList_append_lies _ rfl (.tmp 14) (.tmp 20) 46 rfl w.heap.size 62 i62 _ 3 48 Tryz.underlying46 hi62 hz62 hs62' hy62 rfl (by omega) (.slice none 0 0) 0 [] rfl (World.ownsRow_nil _ _ _ _) ⟨w.heap.size + 1 + 1, 0, none⟩ 1 1 [.string a, .string b, .string c] rfl rfl (news_at (cs := #[.string a, .string b, .string c]) (by simp)) (by simp [Value.oneCell']) (by omega) (by unfold maxLen; omega) (by omega) (by simp <;> omega) (w.heap.size + 1 + 1 + 1) (by simp) ?_; intro g cap w1 hown1 hgrow hat hlt; have b4 := hgrow.block w.heap.size (by simp <;> omega) (by simp [Value.ownBlock]); have b8 := hgrow.block (w.heap.size + 1) (by simp <;> omega) (by simp [Value.ownBlock]); rw [alloc_two0] at b4; rw [alloc_two1] at b8; have q4 := six_at b4; have q8 := six_at b8; obtain ⟨⟨b4c0, b4c1, b4c2, b4c3, b4c4, b4c5⟩, b4f0, b4f1, b4f2, b4f3, b4f4, b4f5⟩ := q4; obtain ⟨⟨b8c0, b8c1, b8c2, b8c3, b8c4, b8c5⟩, b8f0, b8f1, b8f2, b8f3, b8f4, b8f5⟩ := q8)
  try simp only [Exit.inBlock, Exit.then]
  have hg3 : g = w.heap.size + 1 + 1 + 1 := by
    rcases hat with e | e
    · cases e
    · exact e
  refine bodyPost_ret (results_cell_row rfl _ _ (w.heap.size + 1) 49 _ _ _ rfl (set6_block ((set_other w1 ⟨w.heap.size, 4, none⟩ _ (show w.heap.size + 1 ≠ w.heap.size by omega)).trans b8) _ _ _ _ _ _) Tryz.underlying49 rfl size49) rfl ?_
  exact with_end (A := [(a, b, c)]) rfl rfl b4 b8 hown1 (by omega) (below_grow ((((Below.refl _ _).alloc (Nat.le_refl _) _).alloc (by simp) _).alloc (by simp <;> omega) _) hgrow (fun b e => by cases e))
theorem flat_len (A : List (ByteArray × ByteArray × ByteArray)) : (flat A).length = A.length * 3 := by
  induction A with
  | nil => rfl
  | cons a r ih =>
    have e : flat (a :: r) = [.string a.1, .string a.2.1, .string a.2.2] ++ flat r := by simp [flat]
    rw [e, List.length_append, ih, List.length_cons]
    simp only [List.length_cons, List.length_nil]
    omega
theorem flat_one (A : List (ByteArray × ByteArray × ByteArray)) : ∀ u ∈ flat A, u.oneCell' = true := by
  intro u hu
  simp only [flat, List.mem_flatMap] at hu
  obtain ⟨a, _, h⟩ := hu
  simp at h
  rcases h with rfl | rfl | rfl <;> rfl
set_option maxHeartbeats 1000000 in
theorem with_some (el : Bool) (tx sp nm a b c : ByteArray) (A : List (ByteArray × ByteArray × ByteArray)) (hA : A.length ≤ 100) (hA0 : 0 < A.length) (p2 : Option Addr) (n2 m2 : Nat) (w : World) (g0 cap0 : Nat) (hsrc : ∀ i u, (flat A)[i]? = some u → w.cell? ⟨g0, i, none⟩ = some u) :
    Calls Tryz.prog 26 #[.agg #[.bool el, .string tx, .string sp, .string nm, .slice (some ⟨g0, 0, none⟩) A.length cap0, .slice p2 n2 m2], .string a, .string b, .string c] w (WithRet w el tx sp nm (A ++ [(a, b, c)]) (.slice p2 n2 m2)) := by
  have hs := size49
  have hs62 := size62
  obtain ⟨i62, hi62, hz62, hs62', hy62⟩ := info_parts info62
  have hfl := flat_len A
  have Hsrc := Lib.hid hsrc
  clear hsrc
  go_enter Tryz.func26, Tryz.ntmps26
  go_wp2_with (first
    | (at_builtin; refine wpList_append_lies _ rfl (.tmp 10) (.tmp 12) 46 rfl w.heap.size 62 i62 _ 3 48 Tryz.underlying46 hi62 hz62 hs62' hy62 rfl (by omega) (.slice none 0 0) 0 [] rfl (World.ownsRow_nil _ _ _ _) ⟨g0, 0, none⟩ A.length cap0 (flat A) rfl hfl (src_two Hsrc.out _ _) (flat_one A) hA0 (by unfold maxLen; omega) (by omega) (by simp <;> omega) (w.heap.size + 1 + 1) (by simp) ?_; intro g1 cap1 w1 hown1 hgrow1 hat1 hlt1; have b4 := hgrow1.block w.heap.size (by simp <;> omega) (by simp [Value.ownBlock]); have b8 := hgrow1.block (w.heap.size + 1) (by simp <;> omega) (by simp [Value.ownBlock]); rw [alloc_kept (heap_alloc_new _ _)] at b4; rw [heap_alloc2_new] at b8; simp only [Nat.zero_add, List.nil_append] at hown1 ⊢; have hg1 : w.heap.size + 1 < g1 := (by have := hat1.resolve_left (by intro e; cases e); omega); clear hat1)
    | (at_builtin; refine wpList_append_lies _ rfl (.tmp 14) (.tmp 20) 46 rfl w.heap.size 62 i62 _ 3 48 Tryz.underlying46 hi62 hz62 hs62' hy62 rfl (by omega) (.slice (some ⟨g1, 0, none⟩) A.length cap1) A.length (flat A) rfl (hown1.alloc _) ⟨w1.heap.size, 0, none⟩ 1 1 [.string a, .string b, .string c] rfl rfl (news_at (cs := #[.string a, .string b, .string c]) rfl) (by simp [Value.oneCell']) (by omega) (by unfold maxLen; omega) (by omega) (by have := hgrow1.size; simp at this ⊢; omega) (w1.heap.size + 1) (by simp) ?_; intro g2 cap2 w2 hown2 hgrow2 hat2 hlt2; have hw1 := lt_of_some b8; have d4 := (hgrow2.block w.heap.size (by simp; omega) (by simp [Value.ownBlock]; omega)).trans (alloc_kept b4); have d8 := (hgrow2.block (w.heap.size + 1) (by simp; omega) (by simp [Value.ownBlock]; omega)).trans (alloc_kept b8); have q4 := six_at d4; have q8 := six_at d8; obtain ⟨⟨b4c0, b4c1, b4c2, b4c3, b4c4, b4c5⟩, b4f0, b4f1, b4f2, b4f3, b4f4, b4f5⟩ := q4; obtain ⟨⟨b8c0, b8c1, b8c2, b8c3, b8c4, b8c5⟩, b8f0, b8f1, b8f2, b8f3, b8f4, b8f5⟩ := q8))
  try simp only [Exit.inBlock, Exit.then]
  have hg2 : w.heap.size + 2 ≤ g2 := by
    rcases hat2 with e | e
    · simp only [Value.ownBlock, Option.some.injEq] at e; omega
    · omega
  have bw1 : Below w.heap.size w w1 := below_grow (((Below.refl _ _).alloc (Nat.le_refl _) _).alloc (by simp) _) hgrow1 (fun b e => by cases e)
  have bw2 : Below w.heap.size w w2 := below_grow (bw1.alloc bw1.size _) hgrow2 (fun b e => by simp only [Value.ownBlock, Option.some.injEq] at e; omega)
  refine bodyPost_ret (results_cell_row rfl _ _ (w.heap.size + 1) 49 _ _ _ rfl (set6_block ((set_other w2 ⟨w.heap.size, 4, none⟩ _ (show w.heap.size + 1 ≠ w.heap.size by omega)).trans d8) _ _ _ _ _ _) Tryz.underlying49 rfl size49) rfl ?_
  exact with_end (A := A ++ [(a, b, c)]) (by simp) (flat_append A a b c).symm d4 d8 hown2 hg2 bw2
def mapAttrs (q : MapD) : List (ByteArray × ByteArray × ByteArray) := [(styleSpace, ⟨#[99, 111, 110, 100, 105, 116, 105, 111, 110]⟩, ⟨#[118, 97, 108, 117, 101, 40, 41]⟩ ++ sign q.o ++ q.tx),
  (styleSpace, ⟨#[97, 112, 112, 108, 121, 45, 115, 116, 121, 108, 101, 45, 110, 97, 109, 101]⟩, styleName q.ap)]
theorem owns_base {w : World} {B C : Nat} {e : TypeId} {sz n : Nat} {v : Value} {xs : List Value} (h : w.ownsRow C e sz v n xs) (hBC : B ≤ C) : w.ownsRow B e sz v n xs := by
  refine ⟨h.1, ?_⟩
  rcases h.2 with h0 | ⟨q, cp, cur, h1, h2, h3⟩
  · exact .inl h0
  · exact .inr ⟨q, cp, cur, h1, Nat.le_trans hBC h2, h3⟩
theorem head_first {w wa w6 : World} {F : FmtIn} {g cap : Nat} {a : ByteArray × ByteArray × ByteArray} {ds : ByteArray} (hds : ds = dataSpace) (hw : Below w.heap.size w wa) (hsz : w.heap.size + 2 ≤ wa.heap.size)
    (f : wa.heap[w.heap.size]? = some (.cells #[.int .i64 F.k, .slice F.pa F.n F.pc, .slice F.qa F.m F.qc, .bool F.wh] 40 (0, 0)))
    (r : wa.heap[w.heap.size + 1]? = some (.cells #[.bool false, .string ⟨#[]⟩, .string ⟨#[]⟩, .string ⟨#[]⟩, .slice none 0 0, .slice none 0 0] 49 (0, 0)))
    (hb : Below wa.heap.size wa w6) (hown : w6.ownsRow wa.heap.size 62 3 (.slice (some ⟨g, 0, none⟩) [a].length cap) [a].length (flat [a])) :
    Head w (w6.alloc (.cells #[.bool true, .string ⟨#[]⟩, .string ds, .string (kname F.k), .slice (some ⟨g, 0, none⟩) [a].length cap, .slice none 0 0] 49)) F w6.heap.size [a] := by
  subst hds
  have hs := hb.size
  have hg := hown.lt g rfl
  refine ⟨(hw.trans (hb.mono hw.size)).alloc (Nat.le_trans hw.size hs) _, alloc_kept ((hb.block _ (by omega)).trans f), alloc_kept ((hb.block _ (by omega)).trans r), by omega, g, cap, heap_alloc_new _ _, by omega, ?_⟩
  exact (owns_base hown hsz).alloc _
theorem head_with {w wc w1 : World} {F : FmtIn} {b8 g' cap' : Nat} {A A' : List (ByteArray × ByteArray × ByteArray)} {ds nm : ByteArray} (hds : ds = dataSpace) (hnm : nm = kname F.k) (h : Head w wc F b8 A)
    (hb : Below wc.heap.size wc w1) (hown : w1.ownsRow wc.heap.size 62 3 (.slice (some ⟨g', 0, none⟩) A'.length cap') A'.length (flat A')) :
    Head w (set6 w1 b8 (.bool true) (.string ⟨#[]⟩) (.string ds) (.string nm) (.slice (some ⟨g', 0, none⟩) A'.length cap') (.slice none 0 0)) F b8 A' := by
  subst hds hnm
  obtain ⟨g, cap, hx, hne, _⟩ := id h.x
  have hlo := h.lo
  have hs := h.below.size
  have h8 := lt_of_some hx
  have hr := lt_of_some h.r
  have hg := hown.lt g' rfl
  have hb8 := (hb.block b8 h8).trans hx
  refine ⟨set6_below (h.below.trans (hb.mono hs)) (by omega) _ _ _ _ _ _, ?_, ?_, hlo, g', cap', set6_block hb8 _ _ _ _ _ _, by omega, ?_⟩
  · rw [set6_other _ _ _ _ _ _ _ (by omega), hb.block _ (by omega)]; exact h.f
  · rw [set6_other _ _ _ _ _ _ _ (by omega), hb.block _ (by omega)]; exact h.r
  · refine owns_base (owns_keep' hown ?_) (by omega)
    rw [set6_other _ _ _ _ _ _ _ (by omega)]
theorem own_low {wc wr : World} {b8 b : Nat} {sp nm : ByteArray} {va v : Value} {cs : List Value} {ts : List Tree} (h : Acc wc b8 sp nm va v cs ts wr) (hb : b < wc.heap.size) : some b ≠ v.ownBlock := fun e => by
  have := (h.kids.own.lt _ e.symm).1
  omega
structure El1 (wz wx : World) (b13 : Nat) (A : List (ByteArray × ByteArray × ByteArray)) : Prop where
  below : Below wz.heap.size wz wx
  lo : wz.heap.size ≤ b13
  x : ∃ g cap, wx.heap[b13]? = some (.cells #[.bool true, .string ⟨#[]⟩, .string styleSpace, .string ⟨#[109, 97, 112]⟩, .slice (some ⟨g, 0, none⟩) A.length cap, .slice none 0 0] 49 (0, 0)) ∧
    wx.ownsRow wz.heap.size 62 3 (.slice (some ⟨g, 0, none⟩) A.length cap) A.length (flat A)
theorem el_set {wz w7 : World} {b13 g cap : Nat} {a : ByteArray × ByteArray × ByteArray} {c0 c1 c2 c3 c4 c5 : Value} {ss : ByteArray} (hss : ss = styleSpace) (hb : Below wz.heap.size wz w7) (lo : wz.heap.size ≤ b13) (hz : w7.heap[b13]? = some (.cells #[c0, c1, c2, c3, c4, c5] 49 (0, 0)))
    (hown : w7.ownsRow wz.heap.size 62 3 (.slice (some ⟨g, 0, none⟩) [a].length cap) [a].length (flat [a])) :
    El1 wz ((((((w7.setCell ⟨b13, 0, none⟩ (.bool true)).setCell ⟨b13, 1, none⟩ (.string ⟨#[]⟩)).setCell ⟨b13, 2, none⟩ (.string ss)).setCell ⟨b13, 3, none⟩ (.string ⟨#[109, 97, 112]⟩)).setCell ⟨b13, 4, none⟩ (.slice (some ⟨g, 0, none⟩) 1 cap)).setCell ⟨b13, 5, none⟩ (.slice none 0 0)) b13 [a] := by
  subst hss
  have hne : g ≠ b13 := by
    rcases hown.2 with ⟨h, _⟩ | ⟨q, cp, cur, h1, _, h3, _⟩
    · cases h
    · rintro rfl
      have hq : q = g := by cases h1; rfl
      rw [hq, hz] at h3
      simp at h3
  refine ⟨set6_below (b := b13) hb lo (.bool true) (.string ⟨#[]⟩) (.string styleSpace) (.string ⟨#[109, 97, 112]⟩) (.slice (some ⟨g, 0, none⟩) 1 cap) (.slice none 0 0), lo, g, cap, set6_block hz _ _ _ _ _ _, owns_keep' hown ?_⟩
  exact set6_other w7 (b := b13) (.bool true) (.string ⟨#[]⟩) (.string styleSpace) (.string ⟨#[109, 97, 112]⟩) (.slice (some ⟨g, 0, none⟩) 1 cap) (.slice none 0 0) hne
theorem el_alloc {wz w7 : World} {g cap : Nat} {a : ByteArray × ByteArray × ByteArray} {ss : ByteArray} (hss : ss = styleSpace) (hb : Below wz.heap.size wz w7)
    (hown : w7.ownsRow wz.heap.size 62 3 (.slice (some ⟨g, 0, none⟩) [a].length cap) [a].length (flat [a])) :
    El1 wz (w7.alloc (.cells #[.bool true, .string ⟨#[]⟩, .string ss, .string ⟨#[109, 97, 112]⟩, .slice (some ⟨g, 0, none⟩) 1 cap, .slice none 0 0] 49)) w7.heap.size [a] := by
  subst hss
  exact ⟨hb.alloc hb.size _, hb.size, g, cap, heap_alloc_new _ _, hown.alloc _⟩
theorem node_own {w : World} {C g cap : Nat} {sp nm : ByteArray} {A : List (ByteArray × ByteArray × ByteArray)} (h : w.ownsRow C 62 3 (.slice (some ⟨g, 0, none⟩) A.length cap) A.length (flat A)) (hA : A.length < 4611686018427387904) :
    NodeIs w (High C) (.mk true ⟨#[]⟩ sp nm A []) [some (.bool true), some (.string ⟨#[]⟩), some (.string sp), some (.string nm), some (.slice (some ⟨g, 0, none⟩) A.length cap), some (.slice none 0 0)] :=
  .mk true _ _ _ A [] _ none 0 hA (by simp) (attrs_own h (h.lt g rfl).1) (fun e => absurd rfl e) (fun b off e => by cases e)
theorem own_two {w : World} {B g cap : Nat} {o : Nat} {tx : ByteArray} {ap : Int} {vl : Nat} (h : w.ownsRow B 62 3 (.slice (some ⟨g, 0, none⟩) ([(styleSpace, (⟨#[99, 111, 110, 100, 105, 116, 105, 111, 110]⟩ : ByteArray), (⟨#[118, 97, 108, 117, 101, 40, 41]⟩ : ByteArray) ++ sign o ++ tx)] ++ [(styleSpace, (⟨#[97, 112, 112, 108, 121, 45, 115, 116, 121, 108, 101, 45, 110, 97, 109, 101]⟩ : ByteArray), (⟨#[78]⟩ : ByteArray) ++ ⟨(Lib.itoa ap).toArray⟩)]).length cap) ([(styleSpace, (⟨#[99, 111, 110, 100, 105, 116, 105, 111, 110]⟩ : ByteArray), (⟨#[118, 97, 108, 117, 101, 40, 41]⟩ : ByteArray) ++ sign o ++ tx)] ++ [(styleSpace, (⟨#[97, 112, 112, 108, 121, 45, 115, 116, 121, 108, 101, 45, 110, 97, 109, 101]⟩ : ByteArray), (⟨#[78]⟩ : ByteArray) ++ ⟨(Lib.itoa ap).toArray⟩)]).length
    (flat ([(styleSpace, (⟨#[99, 111, 110, 100, 105, 116, 105, 111, 110]⟩ : ByteArray), (⟨#[118, 97, 108, 117, 101, 40, 41]⟩ : ByteArray) ++ sign o ++ tx)] ++ [(styleSpace, (⟨#[97, 112, 112, 108, 121, 45, 115, 116, 121, 108, 101, 45, 110, 97, 109, 101]⟩ : ByteArray), (⟨#[78]⟩ : ByteArray) ++ ⟨(Lib.itoa ap).toArray⟩)]))) :
    w.ownsRow B 62 3 (.slice (some ⟨g, 0, none⟩) (mapAttrs ⟨o, vl, ap, tx⟩).length cap) (mapAttrs ⟨o, vl, ap, tx⟩).length (flat (mapAttrs ⟨o, vl, ap, tx⟩)) := h
end Go.Proofs.YtkeibmkcgnppeaaGreatDoor
namespace Go.Proofs.YtkeibmkcgnppeaaGreatDoor
open Go Go.RowKit
set_option maxRecDepth 100000
attribute [local go_sem ↓] Go.wp_at_zero Go.wp_at_succ
theorem run_store_flt' {P : Program} {w : World} {a : Addr} {m : Mode} (k : FloatKind) (b : Nat) : (store a (.float k b) m).run P w = stored P w a (.float k b) m := run_store P w a _ m rfl
attribute [local go_sem] run_store_flt'
theorem el_as {w : World} {B g cap : Nat} {c : ByteArray} (h : w.ownsRow B 62 3 (.slice (some ⟨g, 0, none⟩) 1 cap) 1 (flat [(styleSpace, ⟨#[99, 111, 110, 100, 105, 116, 105, 111, 110]⟩, c)])) :
    w.ownsRow B 62 3 (.slice (some ⟨g, 0, none⟩) [(styleSpace, (⟨#[99, 111, 110, 100, 105, 116, 105, 111, 110]⟩ : ByteArray), c)].length cap) [(styleSpace, (⟨#[99, 111, 110, 100, 105, 116, 105, 111, 110]⟩ : ByteArray), c)].length (flat [(styleSpace, ⟨#[99, 111, 110, 100, 105, 116, 105, 111, 110]⟩, c)]) := h
set_option maxHeartbeats 20000000 in
theorem fmt10 {W : World} {H L : Nat → Nat} {F : FmtIn} (hF : F.OK W H L) (nn : Int) (hn0 : 0 ≤ nn) (hn1 : nn ≤ 9223372036854775807) (w : World) (hw : Later W w) :
    Calls Tryz.prog 10 #[F.arg, .int .i64 nn] w (NodeRet0 w (fmtTree F nn)) := by
  have Hchk := Lib.hid hF.chk
  have HF := Lib.hid hF
  have Hw := Lib.hid hw
  have hs49 := size49
  have hs62 := size62
  unfold FmtIn.arg at Hchk ⊢
  have hk8 : (F.k : Int) < 8 := by have := hF.k7; omega
  have hk0 : (0 : Int) ≤ (F.k : Int) := by omega
  have hk8n := hF.k7
  have hsn := Lib.itoa_length_le nn (by omega) hn1
  clear hw hF
  go_enter Tryz.func10, Tryz.ntmps10
  go_upto_region 7 with (go_at_call 25; refine ((Hchk.out _ (by repeat first | exact Hw.out | apply Later.alloc)).2.mono ?_); rintro e w1 ⟨rfl, hb1⟩; obtain ⟨g1, g2, hb2, hsz⟩ := two_blocks hb1; clear hb1)
  go_cut [8] (fun s8 wx => ∃ b8, s8 = .pointer (some ⟨b8, 0, none⟩) ∧ Head w wx F b8 [(styleSpace, ⟨#[110, 97, 109, 101]⟩, styleName nn)])
  case first =>
    --<A
    generalize hW2 : w1.alloc _ = W2
    have nc : W2.cell? ⟨w1.heap.size, F.k, none⟩ = some (.string (kname F.k)) := by rw [← hW2]; exact kname_cell (heap_alloc_new _ _) hk8n
    have hb4 : Below w.heap.size w W2 := by rw [← hW2]; exact hb2.alloc (by omega) _
    have f0 : W2.heap[w.heap.size]? = some (.cells #[.int .i64 F.k, .slice F.pa F.n F.pc, .slice F.qa F.m F.qc, .bool F.wh] 40 (0, 0)) := by rw [← hW2, heap_alloc_old]; exact g1; omega
    have r0 : W2.heap[w.heap.size + 1]? = some (.cells #[.bool false, .string ⟨#[]⟩, .string ⟨#[]⟩, .string ⟨#[]⟩, .slice none 0 0, .slice none 0 0] 49 (0, 0)) := by rw [← hW2, heap_alloc_old]; exact g2; omega
    have hs2 : W2.heap.size = w1.heap.size + 1 := by rw [← hW2]; simp
    have kc : W2.cell? ⟨w.heap.size, 0, none⟩ = some (.int .i64 F.k) := by simp [World.cell?, f0]
    have Hl2 := Lib.hid (Hw.out.below hb4)
    have F0 := Lib.hid f0
    have R0 := Lib.hid r0
    have Hb4 := Lib.hid hb4
    clear hW2 g1 g2 hb2 hb4 f0 r0
    go_wp2_with (first
      | (go_at_call 27; refine (relem_call _ _ _).mono ?_; rintro e w4 ⟨rfl, hb4⟩)
      | (go_at_call 28; refine (rcount_call nn (by omega) hn1 _ (HF.out.g.num.later (Hl2.out.below hb4))).mono ?_; rintro e w5 ⟨rfl, hb5⟩)
      | (go_at_call 26; refine (with_none _ _ _ _ _ _ _ _ _ _ _).mono ?_; rintro e w6 ⟨g, cap, rfl, hown6, hb6⟩))
    go_meet
    have hb : Below W2.heap.size W2 w6 := hb4.trans ((hb5.mono hb4.size).trans (hb6.mono (Nat.le_trans hb4.size hb5.size)))
    have hown' : w6.ownsRow W2.heap.size 62 3 (.slice (some ⟨g, 0, none⟩) [(styleSpace, (⟨#[110, 97, 109, 101]⟩ : ByteArray), styleName nn)].length cap) [(styleSpace, (⟨#[110, 97, 109, 101]⟩ : ByteArray), styleName nn)].length (flat [(styleSpace, ⟨#[110, 97, 109, 101]⟩, styleName nn)]) :=
      owns_base hown6 (Nat.le_trans hb4.size hb5.size)
    have hfin := head_first (F := F) (a := (styleSpace, ⟨#[110, 97, 109, 101]⟩, styleName nn)) rfl Hb4.out (by omega) F0.out R0.out hb hown'
    exact ⟨_, rfl, hfin⟩
    --A>
  case rest =>
  obtain ⟨b8, rfl, hH⟩ := hcut
  have hx := hH.x
  obtain ⟨g, cap, hx, hne, hown⟩ := hx
  have kc : wc.cell? ⟨w.heap.size, 0, none⟩ = some (.int .i64 F.k) := by simp [World.cell?, hH.f]
  have q8 := six_at hx
  obtain ⟨⟨x0, x1, x2, x3, x4, x5⟩, -⟩ := q8
  have HH := Lib.hid hH
  have Hown := Lib.hid hown
  have Hx := Lib.hid hx
  clear hH hown hx
  go_upto_if 35 with fail
  generalize ht : ((F.k : Int) == 0) = t
  have Ht := Lib.hid ht
  clear ht
  go_cut [] (fun wx => Head w wx F b8 ([(styleSpace, ⟨#[110, 97, 109, 101]⟩, styleName nn)] ++ titled F.k))
  case first =>
    --<B
    cases t with
    | true =>
      go_wp2_with (go_at_call 26; refine (with_some _ _ _ _ _ _ _ [(styleSpace, (⟨#[110, 97, 109, 101]⟩ : ByteArray), styleName nn)] (by simp) (by simp) _ _ _ _ _ _ (fun i u hi => own_cell Hown.out hi)).mono ?_; rintro e w6 ⟨g', cap', rfl, hown6, hb6⟩; have b8k := (hb6.block b8 (lt_of_some Hx.out)).trans Hx.out; have q6 := six_at b8k; obtain ⟨⟨y0, y1, y2, y3, y4, y5⟩, f0, f1, f2, f3, f4, f5⟩ := q6)
      go_meet
      rw [titled_pos (show F.k = 0 by have := Ht.out; simpa using this)]
      have hfin := head_with rfl rfl HH.out hb6 hown6
      exact hfin
    | false =>
      go_wp2_with fail
      go_meet
      rw [titled_neg (show ¬ F.k = 0 by have := Ht.out; simpa using this)]
      exact HH.out
    --B>
  case rest =>
  have HA := Lib.hid hcut
  clear hcut HH Hown Hx kc x0 x1 x2 x3 x4 x5 hne Ht
  clear g cap
  have hAl := titled_len F.k (styleSpace, ⟨#[110, 97, 109, 101]⟩, styleName nn)
  have hAp : 0 < ([(styleSpace, (⟨#[110, 97, 109, 101]⟩ : ByteArray), styleName nn)] ++ titled F.k).length := by simp
  generalize hA : ([(styleSpace, (⟨#[110, 97, 109, 101]⟩ : ByteArray), styleName nn)] ++ titled F.k) = A at HA hAl hAp
  have HAe := Lib.hid hA
  clear hA
  obtain ⟨g, cap, hx, hne, hown⟩ := HA.out.x
  have wc4 : wc.cell? ⟨w.heap.size, 3, none⟩ = some (.bool F.wh) := by simp [World.cell?, HA.out.f]
  have q8 := six_at hx
  obtain ⟨⟨x0, x1, x2, x3, x4, x5⟩, -⟩ := q8
  have Hown := Lib.hid hown
  have Hx := Lib.hid hx
  clear hown hx
  go_upto_if 39 with fail
  generalize hwh : F.wh = t2 at wc4 ⊢
  have Hwh := Lib.hid hwh
  clear hwh
  go_cut [] (fun wx => Head w wx F b8 (A ++ whole t2))
  case first =>
    --<C
    cases t2 with
    | true =>
      go_wp2_with (go_at_call 26; refine (with_some _ _ _ _ _ _ _ A (by omega) hAp _ _ _ _ _ _ (fun i u hi => own_cell Hown.out hi)).mono ?_; rintro e w6 ⟨g', cap', rfl, hown6, hb6⟩; have b8k := (hb6.block b8 (lt_of_some Hx.out)).trans Hx.out; have q6 := six_at b8k; obtain ⟨⟨y0, y1, y2, y3, y4, y5⟩, f0, f1, f2, f3, f4, f5⟩ := q6)
      go_meet
      have hfin := head_with rfl rfl HA.out hb6 hown6
      rw [List.length_append, List.length_singleton] at hfin
      exact hfin
    | false =>
      go_wp2_with fail
      go_meet
      rw [show whole false = [] from rfl, List.append_nil]
      exact HA.out
    --C>
  case rest =>
  obtain ⟨wb, rfl⟩ : ∃ x, x = wc := ⟨_, rfl⟩
  have HB := Lib.hid hcut
  clear hcut HA Hx Hown wc4 x0 x1 x2 x3 x4 x5 hne
  clear g cap
  obtain ⟨g, cap, hx, hne, hown⟩ := HB.out.x
  have Hown := Lib.hid hown
  have Hne := Lib.hid hne
  obtain ⟨va, hva⟩ : ∃ va, va = Value.slice (some ⟨g, 0, none⟩) (A ++ whole t2).length cap := ⟨_, rfl⟩
  rw [← hva] at hx
  have Hva := Lib.hid hva
  clear hva hown hne
  have Hst := Lib.hid (Acc.start hx)
  have HX := Lib.hid hx
  clear hx
  obtain ⟨i49, hi49, hz49, hs49', hy49⟩ := info_parts info49
  have hn64 := HF.out.n64
  generalize hpa : F.pa = pa
  have Hpa := Lib.hid hpa
  clear hpa
  go_wp2_with fail
  go_loopw [9] (fun i wr => ∃ (j : Nat) (v : Value) (cs : List Value), j ≤ F.n ∧ i = .int .i64 j ∧ Acc wb b8 dataSpace (kname F.k) va v cs ((List.range j).map F.pt) wr) (fun i _ => F.n - (intOf i).toNat)
  case atStart => exact ⟨0, _, _, Nat.zero_le _, rfl, Hst.out⟩
  case round =>
    obtain ⟨j, v, cs, hj, rfl, hacc⟩ := hrel
    have k1 : wr.cell? ⟨w.heap.size, 1, none⟩ = some (.slice pa F.n F.pc) := by
      have hbx := hacc.box HB.out
      rw [Hpa.out] at hbx
      simp [World.cell?, hbx]
    have Hacc := Lib.hid hacc
    clear hacc
    rcases Nat.lt_or_ge j F.n with hlt | hge
    · --<D
      obtain ⟨pb, off, hp, hpb, hr⟩ := HF.out.pcell j hlt
      have hp2 := Hpa.out.symm.trans hp
      subst hp2
      have hl := Hacc.out.later Hw.out HB.out
      obtain ⟨p0, p1, p2, p3, p4, p5, p6⟩ := seven_at (hl.range hpb hr)
      have Lr := Lib.hid hl
      have k0 : wr.cell? ⟨w.heap.size, 0, none⟩ = some (.int .i64 F.k) := by simp [World.cell?, Hacc.out.box HB.out]
      have xz : wr.cell? ⟨b8, 5, none⟩ = some v := by simp [World.cell?, Hacc.out.x]
      have far8 := own_far Hacc.out
      have hwwc := lt_of_some HB.out.f
      have uw : some w.heap.size ≠ v.ownBlock := own_low Hacc.out hwwc
      have up : some pb ≠ v.ownBlock := own_low Hacc.out (by have := Hw.out.1; omega)
      have lzc := Hacc.out.size
      clear hp hr hl
      go_wp2_with fail
      --<Dr
      refine wp_region_noPanic ?_
      refine wp_region_tail (S := fun w' => w'.cell? ⟨b8, 5, none⟩ = some v ∧ w'.cell? ⟨w.heap.size, 1, none⟩ = some (.slice (some ⟨pb, off, none⟩) F.n F.pc) ∧ w'.cell? ⟨w.heap.size, 0, none⟩ = some (.int .i64 F.k) ∧ w'.cell? ⟨pb, off + j * 7, none⟩ = some (.int .i64 (F.PD j).kd) ∧ w'.cell? ⟨pb, off + j * 7 + 1, none⟩ = some (.string (F.PD j).tx) ∧ w'.cell? ⟨pb, off + j * 7 + 2, none⟩ = some (.int .i64 (F.PD j).mn) ∧ w'.cell? ⟨pb, off + j * 7 + 3, none⟩ = some (.int .i64 (F.PD j).pl) ∧ w'.cell? ⟨pb, off + j * 7 + 4, none⟩ = some (.int .i64 (F.PD j).ex) ∧ w'.cell? ⟨pb, off + j * 7 + 5, none⟩ = some (.bool (F.PD j).gr) ∧ w'.cell? ⟨pb, off + j * 7 + 6, none⟩ = some (.bool (F.PD j).lo)) (tail := fun i => Nat.ble 13 i) (by kernel_rfl) ⟨xz, k1, k0, p0, p1, p2, p3, p4, p5, p6⟩ (fun hHeld => ?_)
      refine wpAnyT_take (i := 0) (v := ?_) rfl (by kernel_rfl) (by kernel_rfl) (by kernel_rfl) (by kernel_rfl) (fun _ _ _ h => h) (Or.inl ⟨by rfl, ?_⟩) (by assumption) ?_
      rotate_left; · (intro w hSw; (try dsimp only at hSw); go_simp; try with_reducible rfl)
      (try simp only [Act.put, List.setIfInBounds_toArray, List.set_cons_zero, List.set_cons_succ])
      refine wpAnyT_take (i := 1) (v := ?_) rfl (by kernel_rfl) (by kernel_rfl) (by kernel_rfl) (by kernel_rfl) (fun _ _ _ h => h) (Or.inl ⟨by rfl, ?_⟩) (by assumption) ?_
      rotate_left; · (intro w hSw; (try dsimp only at hSw); go_simp; try with_reducible rfl)
      (try simp only [Act.put, List.setIfInBounds_toArray, List.set_cons_zero, List.set_cons_succ])
      refine wpAnyT_take (i := 2) (v := ?_) rfl (by kernel_rfl) (by kernel_rfl) (by kernel_rfl) (by kernel_rfl) (fun _ _ _ h => h) (Or.inl ⟨by rfl, ?_⟩) (by assumption) ?_
      rotate_left; · (intro w hSw; (try dsimp only at hSw); go_simp; try with_reducible rfl)
      (try simp only [Act.put, List.setIfInBounds_toArray, List.set_cons_zero, List.set_cons_succ])
      refine wpAnyT_take (i := 3) (v := ?_) rfl (by kernel_rfl) (by kernel_rfl) (by kernel_rfl) (by kernel_rfl) (fun _ _ _ h => h) (Or.inl ⟨by rfl, ?_⟩) (by assumption) ?_
      rotate_left; · (intro w hSw; (try dsimp only at hSw); go_simp; try with_reducible rfl)
      (try simp only [Act.put, List.setIfInBounds_toArray, List.set_cons_zero, List.set_cons_succ])
      refine wpAnyT_take (i := 4) (v := ?_) rfl (by kernel_rfl) (by kernel_rfl) (by kernel_rfl) (by kernel_rfl) (fun _ _ _ h => h) (Or.inl ⟨by rfl, ?_⟩) (by assumption) ?_
      rotate_left; · (intro w hSw; (try dsimp only at hSw); go_simp; try with_reducible rfl)
      (try simp only [Act.put, List.setIfInBounds_toArray, List.set_cons_zero, List.set_cons_succ])
      refine wpAnyT_take (i := 5) (v := ?_) rfl (by kernel_rfl) (by kernel_rfl) (by kernel_rfl) (by kernel_rfl) (fun _ _ _ h => h) (Or.inl ⟨by rfl, ?_⟩) (by assumption) ?_
      rotate_left; · (intro w hSw; (try dsimp only at hSw); go_simp; try with_reducible rfl)
      (try simp only [Act.put, List.setIfInBounds_toArray, List.set_cons_zero, List.set_cons_succ])
      refine wpAnyT_take (i := 6) (v := ?_) rfl (by kernel_rfl) (by kernel_rfl) (by kernel_rfl) (by kernel_rfl) (fun _ _ _ h => h) (Or.inl ⟨by rfl, ?_⟩) (by assumption) ?_
      rotate_left; · (intro w hSw; (try dsimp only at hSw); go_simp; try with_reducible rfl)
      (try simp only [Act.put, List.setIfInBounds_toArray, List.set_cons_zero, List.set_cons_succ])
      refine wpAnyT_take (i := 7) (v := ?_) rfl (by kernel_rfl) (by kernel_rfl) (by kernel_rfl) (by kernel_rfl) (fun _ _ _ h => h) (Or.inl ⟨by rfl, ?_⟩) (by assumption) ?_
      rotate_left; · (intro w hSw; (try dsimp only at hSw); go_simp; try with_reducible rfl)
      (try simp only [Act.put, List.setIfInBounds_toArray, List.set_cons_zero, List.set_cons_succ])
      refine wpAnyT_take (i := 8) (v := ?_) rfl (by kernel_rfl) (by kernel_rfl) (by kernel_rfl) (by kernel_rfl) (fun _ _ _ h => h) (Or.inl ⟨by rfl, ?_⟩) (by assumption) ?_
      rotate_left; · (intro w hSw; (try dsimp only at hSw); go_simp; try with_reducible rfl)
      (try simp only [Act.put, List.setIfInBounds_toArray, List.set_cons_zero, List.set_cons_succ])
      refine wpAnyT_step (i := 9) (by kernel_rfl) rfl (fun K hK => ?_)
      (go_simp; go_at_call 29; refine ((HF.out.pnode j hlt wr.drew Lr.out).2.mono ?_); rintro e w5 ⟨el, tx, sp, lc, q1, r1, s1, q2, r2, s2, rfl, hnode, hb5⟩; (try go_wp2_with fail))
      refine hK.out _ _ ?_ (fun hHeld => ?_)
      · exact ⟨cell_keep hb5 hHeld.1, cell_keep hb5 hHeld.2.1, cell_keep hb5 hHeld.2.2.1, cell_keep hb5 hHeld.2.2.2.1, cell_keep hb5 hHeld.2.2.2.2.1, cell_keep hb5 hHeld.2.2.2.2.2.1, cell_keep hb5 hHeld.2.2.2.2.2.2.1, cell_keep hb5 hHeld.2.2.2.2.2.2.2.1, cell_keep hb5 hHeld.2.2.2.2.2.2.2.2.1, cell_keep hb5 hHeld.2.2.2.2.2.2.2.2.2⟩
      clear hK K
      (try simp only [Act.put, List.setIfInBounds_toArray, List.set_cons_zero, List.set_cons_succ])
      refine wpAnyT_step (i := 10) (by kernel_rfl) rfl (fun K hK => ?_)
      go_simp
      refine hK.out _ _ ?_ (fun hHeld => ?_)
      · exact ⟨alloc_keep _ hHeld.1, alloc_keep _ hHeld.2.1, alloc_keep _ hHeld.2.2.1, alloc_keep _ hHeld.2.2.2.1, alloc_keep _ hHeld.2.2.2.2.1, alloc_keep _ hHeld.2.2.2.2.2.1, alloc_keep _ hHeld.2.2.2.2.2.2.1, alloc_keep _ hHeld.2.2.2.2.2.2.2.1, alloc_keep _ hHeld.2.2.2.2.2.2.2.2.1, alloc_keep _ hHeld.2.2.2.2.2.2.2.2.2⟩
      clear hK K
      (try simp only [Act.put, List.setIfInBounds_toArray, List.set_cons_zero, List.set_cons_succ])
      refine wpAnyT_step (i := 11) (by kernel_rfl) rfl (fun K hK => ?_)
      (have own9 := owns_call (kids_own Hacc.out) (below_d hb5) (Obj.cells #[.bool el, .string tx, .string sp, .string lc, .slice q1 r1 s1, .slice q2 r2 s2] 49); have big9 : wb.heap.size ≤ w5.heap.size + 1 := (by have := ((below_d hb5)).size; omega); have new9 := World.news_of_block (heap_alloc_new w5 (Obj.cells #[.bool el, .string tx, .string sp, .string lc, .slice q1 r1 s1, .slice q2 r2 s2] 49)); refine step_append_lies _ (by rfl) _ _ _ (by rfl) wb.heap.size 49 i49 _ 6 104 Tryz.underlying47 hi49 hz49 hs49' hy49 rfl (by omega) v j cs (by rfl) own9 ⟨w5.heap.size, 0, none⟩ 1 1 [.bool el, .string tx, .string sp, .string lc, .slice q1 r1 s1, .slice q2 r2 s2] (by rfl) (by rfl) new9 (by simp [Value.oneCell']) (by omega) (by unfold maxLen; omega) (by omega) (by rw [size_alloc']; exact big9) (w5.heap.size + 1) (by rw [size_alloc']) ?_; intro g' cap' w10 hown10 hgrow hat hlt10; have x10 := far_block (below_d hb5) hgrow Hacc.out.x far8; have q10 := six_at x10; obtain ⟨⟨x10c0, x10c1, x10c2, x10c3, x10c4, x10c5⟩, x10f0, x10f1, x10f2, x10f3, x10f4, x10f5⟩ := q10)
      refine hK.out _ _ ?_ (fun hHeld => ?_)
      · exact ⟨grown_keep hgrow hHeld.1 far8, grown_keep hgrow hHeld.2.1 uw, grown_keep hgrow hHeld.2.2.1 uw, grown_keep hgrow hHeld.2.2.2.1 up, grown_keep hgrow hHeld.2.2.2.2.1 up, grown_keep hgrow hHeld.2.2.2.2.2.1 up, grown_keep hgrow hHeld.2.2.2.2.2.2.1 up, grown_keep hgrow hHeld.2.2.2.2.2.2.2.1 up, grown_keep hgrow hHeld.2.2.2.2.2.2.2.2.1 up, grown_keep hgrow hHeld.2.2.2.2.2.2.2.2.2 up⟩
      clear hK K
      (try simp only [Act.put, List.setIfInBounds_toArray, List.set_cons_zero, List.set_cons_succ])
      refine wpAnyT_take (i := 12) (v := ?_) rfl (by kernel_rfl) (by kernel_rfl) (by kernel_rfl) (by kernel_rfl) (fun _ _ _ h => h) (Or.inl ⟨by rfl, ?_⟩) (by assumption) ?_
      rotate_left; · (intro w hSw; (try dsimp only at hSw); go_simp; try with_reducible rfl)
      (try simp only [Act.put, List.setIfInBounds_toArray, List.set_cons_zero, List.set_cons_succ])
      refine wpAnyT_last (i := 13) (by kernel_rfl) rfl rfl (fun K hK => ?_)
      go_simp
      refine hK.out _ _ ?_
      clear hK K
      (try simp only [Act.put, List.setIfInBounds_toArray, List.set_cons_zero, List.set_cons_succ])
      refine wpAnyT_done (by kernel_rfl) ?_ _
      refine NoPanic.normal ?_
      --Dr>
      go_wp2_with fail
      exact ⟨acc_round Hacc.out hlt hb5 hnode hown10 hgrow hat, round_measure hlt⟩
      --D>
    · obtain rfl : j = F.n := by omega
      clear hge
      go_wp2_with fail
      generalize hwd : wr.alloc _ = wd
      have bd : Below wr.heap.size wr wd := by rw [← hwd]; exact (Below.refl _ _).alloc (Nat.le_refl _) _
      have Hsg := Lib.hid (show wd.heap[wr.heap.size]? = some (.cells #[.string ⟨#[61]⟩, .string ⟨#[33, 61]⟩, .string ⟨#[60]⟩, .string ⟨#[60, 61]⟩, .string ⟨#[62]⟩, .string ⟨#[62, 61]⟩] 69 (0, 0)) by rw [← hwd]; exact heap_alloc_new _ _)
      have Hd := Lib.hid (Hacc.out.keep bd)
      clear hwd bd k1 Hacc
      generalize wr.heap.size = sg at Hsg ⊢
      generalize hqa : F.qa = qa
      have Hqa := Lib.hid hqa
      clear hqa
      go_loopw [11] (fun i wr => ∃ (j : Nat) (v : Value) (cs : List Value), j ≤ F.m ∧ i = .int .i64 j ∧ Acc wb b8 dataSpace (kname F.k) va v cs ((List.range F.n).map F.pt ++ (List.range j).map fun j => mapTree (F.MD j)) wr ∧
        wr.heap[sg]? = some (.cells #[.string ⟨#[61]⟩, .string ⟨#[33, 61]⟩, .string ⟨#[60]⟩, .string ⟨#[60, 61]⟩, .string ⟨#[62]⟩, .string ⟨#[62, 61]⟩] 69 (0, 0))) (fun i _ => F.m - (intOf i).toNat)
      case atStart => exact ⟨0, _, _, Nat.zero_le _, rfl, by rw [List.range_zero, List.map_nil, List.append_nil]; exact Hd.out, Hsg.out⟩
      case round =>
        obtain ⟨j, v, cs, hj, rfl, hacc, hsg⟩ := hrel
        have k2 : wr.cell? ⟨w.heap.size, 2, none⟩ = some (.slice qa F.m F.qc) := by
          have hbx := hacc.box HB.out
          rw [Hqa.out] at hbx
          simp [World.cell?, hbx]
        have Hacc := Lib.hid hacc
        have Hsg2 := Lib.hid hsg
        clear hacc hsg Hd Hsg
        have hm8 := HF.out.m8
        rcases Nat.lt_or_ge j F.m with hlt | hge
        · --<E
          obtain ⟨pb, off, hp, hpb, hr⟩ := HF.out.qcell j hlt
          have hp2 := Hqa.out.symm.trans hp
          subst hp2
          have hl := Hacc.out.later Hw.out HB.out
          obtain ⟨p0, p1, p2⟩ := three_at (hl.range hpb hr)
          clear hp hr
          have Hl := Lib.hid hl
          clear hl
          go_upto_region 21 with fail
          clear p0 p1 p2 k2
          generalize hwz : wr.alloc _ = wz
          have bz : Below wr.heap.size wr wz := by rw [← hwz]; exact (Below.refl _ _).alloc (Nat.le_refl _) _
          have z10 : wz.heap[wr.heap.size]? = some (.cells #[.int .i64 (18 + (F.MD j).o), .float .f64 (F.MD j).vl, .int .i64 (F.MD j).ap] 71 (0, 0)) := by rw [← hwz]; exact heap_alloc_new _ _
          have hwzs : wz.heap.size = wr.heap.size + 1 := by rw [← hwz]; simp
          clear hwz
          have Az := Lib.hid (Hacc.out.keep bz)
          have Lz := Lib.hid (Hl.out.below bz)
          have hsz := (bz.block sg (lt_of_some Hsg2.out)).trans Hsg2.out
          have o6 := HF.out.op j hlt
          have sz := sign_cell hsz o6
          obtain ⟨p0, p1, p2⟩ := three_row z10
          obtain ⟨t600, _, tx30⟩ := HF.out.qtx j hlt
          have sl2 := sign_len (F.MD j).o
          obtain ⟨ap0, ap1⟩ := HF.out.ap j hlt
          have al := Lib.itoa_length_le (F.MD j).ap ap0 ap1
          have Tx := Lib.hid tx30
          have Hsz := Lib.hid hsz
          have Z10 := Lib.hid z10
          clear bz z10 tx30 hsz
          go_cut [13] (fun s13 wx => ∃ b13, s13 = .pointer (some ⟨b13, 0, none⟩) ∧ El1 wz wx b13 [(styleSpace, ⟨#[99, 111, 110, 100, 105, 116, 105, 111, 110]⟩, ⟨#[118, 97, 108, 117, 101, 40, 41]⟩ ++ sign (F.MD j).o ++ (F.MD j).tx)])
          case first =>
            --<F
            have hw18 := wrap_sub18 (F.MD j).o o6
            have ho0 : (0 : Int) ≤ ((F.MD j).o : Int) := by omega
            have ho1 : ((F.MD j).o : Int) < 6 := by omega
            have hq1 : ¬ 9223372036854775807 < 7 + (sign (F.MD j).o).size := by omega
            have hq2 : ¬ 9223372036854775807 < 7 + (sign (F.MD j).o).size + (F.MD j).tx.size := by omega
            have lzs := lt_of_some Hsz.out
            have d0 : wz.drew.cell? ⟨wr.heap.size, 0, none⟩ = some (.int .i64 (18 + (F.MD j).o)) := p0
            have d1 : wz.drew.cell? ⟨wr.heap.size, 1, none⟩ = some (.float .f64 (F.MD j).vl) := p1
            have d3 : wz.drew.cell? ⟨sg, (F.MD j).o, none⟩ = some (.string (sign (F.MD j).o)) := sz
            go_region_held3 (fun w' => w'.cell? ⟨wr.heap.size, 0, none⟩ = some (.int .i64 (18 + (F.MD j).o)) ∧ w'.cell? ⟨wr.heap.size, 1, none⟩ = some (.float .f64 (F.MD j).vl) ∧ w'.cell? ⟨sg, (F.MD j).o, none⟩ = some (.string (sign (F.MD j).o)))
              (refine ⟨?_, ?_, ?_⟩ <;> (repeat first | with_reducible exact p0 | with_reducible exact p1 | with_reducible exact sz | with_reducible exact d0 | with_reducible exact d1 | with_reducible exact d3 | rw [drew_cell] | rw [alloc_cell _ (by simp; omega)] | rw [set6_cell _ _ _ _ _ _ (by first | (simp; omega) | simp)] | rw [hb7.cell (by simp; omega)] | rw [hb6.cell (by simp; omega)] | rw [hb5.cell (by simp; omega)]))
              (first
                | (go_at_call 27; refine (relem_call _ _ _).mono ?_; rintro e w5 ⟨rfl, hb5⟩; have B5 : Below wz.heap.size wz w5 := (by first | exact hb5 | exact below_ad hb5 | exact below_d hb5 | exact below_a hb5); have hs5 : wz.heap.size ≤ w5.heap.size := B5.size
                   first
                    | (have z5 := last_kept_d hb5; (try simp only [size_alloc', hwzs] at z5); have q5 := six_at z5; obtain ⟨⟨z5c0, z5c1, z5c2, z5c3, z5c4, z5c5⟩, z5f0, z5f1, z5f2, z5f3, z5f4, z5f5⟩ := q5)
                    | skip)
                | (go_at_call 30; refine (Tx.out _ (HF.out.g.num.later (by first | exact Lz.out.below B5 | exact (Lz.out.below B5).alloc _))).mono ?_; rintro e w6 ⟨rfl, hb6⟩; have B6 : Below w5.heap.size w5 w6 := (by first | exact hb6 | exact below_a hb6); have hs6 : w5.heap.size ≤ w6.heap.size := B6.size
                   first
                    | (have z6 := (hb6.block _ (by have := lt_of_some z5; simp; omega)).trans z5; have q6 := six_at z6; obtain ⟨⟨z6c0, z6c1, z6c2, z6c3, z6c4, z6c5⟩, z6f0, z6f1, z6f2, z6f3, z6f4, z6f5⟩ := q6)
                    | (have z6 := last_kept hb6; (try simp only [size_alloc', hwzs] at z6); have q6 := six_at z6; obtain ⟨⟨z6c0, z6c1, z6c2, z6c3, z6c4, z6c5⟩, z6f0, z6f1, z6f2, z6f3, z6f4, z6f5⟩ := q6)
                    | skip)
                | (go_at_call 26; refine (with_none _ _ _ _ _ _ _ _ _ _ _).mono ?_; rintro e w7 ⟨g, cap, rfl, hown7, hb7⟩; have B7 : Below w6.heap.size w6 w7 := (by first | exact hb7 | exact below_a hb7); have hs7 : w6.heap.size ≤ w7.heap.size := B7.size; have own7 := owns_base hown7 (B := wz.heap.size) (by first | omega | (simp; omega))
                   first
                    | (have z7 := (hb7.block _ (by have := lt_of_some z6; simp; omega)).trans z6; have q7 := six_at z7; obtain ⟨⟨z7c0, z7c1, z7c2, z7c3, z7c4, z7c5⟩, z7f0, z7f1, z7f2, z7f3, z7f4, z7f5⟩ := q7)
                    | (have z7 := last_kept hb7; (try simp only [size_alloc', hwzs] at z7); have q7 := six_at z7; obtain ⟨⟨z7c0, z7c1, z7c2, z7c3, z7c4, z7c5⟩, z7f0, z7f1, z7f2, z7f3, z7f4, z7f5⟩ := q7)
                    | skip))
            all_goals (
              go_wp2_with fail
              go_meet
              have B : Below wz.heap.size wz w7 := B5.trans ((B6.mono hs5).trans (B7.mono (Nat.le_trans hs5 hs6)))
              first
                | (have hh := z7; clear hh; exact ⟨_, rfl, el_set rfl B (by omega) z7 (el_as own7)⟩)
                | exact ⟨_, rfl, el_alloc rfl B (el_as own7)⟩)
            --F>
          case rest =>
          obtain ⟨b13, rfl, hEl⟩ := hcut
          obtain ⟨gE, capE, hxE, hownE⟩ := hEl.x
          have bE := hEl.below
          have loE := hEl.lo
          have q13 := six_at hxE
          obtain ⟨⟨e0, e1, e2, e3, e4, e5⟩, -⟩ := q13
          have AE := Lib.hid (Az.out.keep bE)
          have LE := Lib.hid (Lz.out.below bE)
          have xz : wc.cell? ⟨b8, 5, none⟩ = some v := by simp [World.cell?, AE.out.x]
          have pz2 := cell_keep bE p2
          have far8 := own_far Az.out
          have zE := (bE.block wr.heap.size (by omega)).trans Z10.out
          obtain ⟨u3, u4⟩ := other_own AE.out (by decide) zE
          have u13 : some b13 ≠ v.ownBlock := fun e => by
            have := (Az.out.kids.own.lt _ e.symm).2
            omega
          have hlzb := Az.out.size
          have HownE := Lib.hid hownE
          have BE := Lib.hid bE
          clear hxE hownE bE hEl zE p0 p1 p2 sz
          have hq3 : ¬ 9223372036854775807 < 1 + (Lib.itoa (F.MD j).ap).length := by omega
          have sE := BE.out.size
          have own0 := kids_own2 (n := F.n) Az.out (by simp)
          go_wp2_with fail
          --<Er
          refine wp_region_noPanic ?_
          refine wp_region_tail (S := fun w' => w'.cell? ⟨b8, 5, none⟩ = some v ∧ w'.cell? ⟨wr.heap.size, 2, none⟩ = some (.int .i64 (F.MD j).ap) ∧ w'.cell? ⟨b13, 0, none⟩ = some (.bool true) ∧ w'.cell? ⟨b13, 1, none⟩ = some (.string ⟨#[]⟩) ∧ w'.cell? ⟨b13, 2, none⟩ = some (.string styleSpace) ∧ w'.cell? ⟨b13, 3, none⟩ = some (.string ⟨#[109, 97, 112]⟩) ∧ w'.cell? ⟨b13, 4, none⟩ = some (.slice (some ⟨gE, 0, none⟩) 1 capE) ∧ w'.cell? ⟨b13, 5, none⟩ = some (.slice none 0 0)) (tail := fun i => Nat.ble 11 i) (by kernel_rfl) ⟨xz, pz2, e0, e1, e2, e3, e4, e5⟩ (fun hHeld => ?_)
          refine wpAnyT_take (i := 0) (v := ?_) rfl (by kernel_rfl) (by kernel_rfl) (by kernel_rfl) (by kernel_rfl) (fun _ _ _ h => h) (Or.inl ⟨by rfl, ?_⟩) (by assumption) ?_
          rotate_left; · (intro w hSw; (try dsimp only at hSw); go_simp; try with_reducible rfl)
          (try simp only [Act.put, List.setIfInBounds_toArray, List.set_cons_zero, List.set_cons_succ])
          refine wpAnyT_take (i := 1) (v := ?_) rfl (by kernel_rfl) (by kernel_rfl) (by kernel_rfl) (by kernel_rfl) (fun _ _ _ h => h) (Or.inl ⟨by rfl, ?_⟩) (by assumption) ?_
          rotate_left; · (intro w hSw; (try dsimp only at hSw); go_simp; try with_reducible rfl)
          (try simp only [Act.put, List.setIfInBounds_toArray, List.set_cons_zero, List.set_cons_succ])
          refine wpAnyT_take (i := 2) (v := ?_) rfl (by kernel_rfl) (by kernel_rfl) (by kernel_rfl) (by kernel_rfl) (fun _ _ _ h => h) (Or.inl ⟨by rfl, ?_⟩) (by assumption) ?_
          rotate_left; · (intro w hSw; (try dsimp only at hSw); go_simp; try with_reducible rfl)
          (try simp only [Act.put, List.setIfInBounds_toArray, List.set_cons_zero, List.set_cons_succ])
          refine wpAnyT_take (i := 3) (v := ?_) rfl (by kernel_rfl) (by kernel_rfl) (by kernel_rfl) (by kernel_rfl) (fun _ _ _ h => h) (Or.inl ⟨by rfl, ?_⟩) (by assumption) ?_
          rotate_left; · (intro w hSw; (try dsimp only at hSw); go_simp; try with_reducible rfl)
          (try simp only [Act.put, List.setIfInBounds_toArray, List.set_cons_zero, List.set_cons_succ])
          refine wpAnyT_take (i := 4) (v := ?_) rfl (by kernel_rfl) (by kernel_rfl) (by kernel_rfl) (by kernel_rfl) (fun _ _ _ h => h) (Or.inl ⟨by rfl, ?_⟩) (by assumption) ?_
          rotate_left; · (intro w hSw; (try dsimp only at hSw); go_simp; try with_reducible rfl)
          (try simp only [Act.put, List.setIfInBounds_toArray, List.set_cons_zero, List.set_cons_succ])
          refine wpAnyT_step (i := 5) (by kernel_rfl) rfl (fun K hK => ?_)
          (go_simp; go_at_call 28; refine (rcount_call _ ap0 ap1 _ (HF.out.g.num.later (Later.drew LE.out))).mono ?_; rintro e w8 ⟨rfl, hb8⟩; have B8 : Below wc.heap.size wc w8 := below_d hb8; have hs8 : wc.heap.size ≤ w8.heap.size := B8.size; (try go_wp2_with fail))
          refine hK.out _ _ ?_ (fun hHeld => ?_)
          · exact ⟨cell_keep hb8 hHeld.1, cell_keep hb8 hHeld.2.1, cell_keep hb8 hHeld.2.2.1, cell_keep hb8 hHeld.2.2.2.1, cell_keep hb8 hHeld.2.2.2.2.1, cell_keep hb8 hHeld.2.2.2.2.2.1, cell_keep hb8 hHeld.2.2.2.2.2.2.1, cell_keep hb8 hHeld.2.2.2.2.2.2.2⟩
          clear hK K
          (try simp only [Act.put, List.setIfInBounds_toArray, List.set_cons_zero, List.set_cons_succ])
          refine wpAnyT_take (i := 6) (v := ?_) rfl (by kernel_rfl) (by kernel_rfl) (by kernel_rfl) (by kernel_rfl) (fun _ _ _ h => h) (Or.inl ⟨by rfl, ?_⟩) (by assumption) ?_
          rotate_left; · (intro w hSw; (try dsimp only at hSw); go_simp; try with_reducible rfl)
          (try simp only [Act.put, List.setIfInBounds_toArray, List.set_cons_zero, List.set_cons_succ])
          refine wpAnyT_step (i := 7) (by kernel_rfl) rfl (fun K hK => ?_)
          (go_simp; go_at_call 26; refine (with_some _ _ _ _ _ _ _ [(styleSpace, (⟨#[99, 111, 110, 100, 105, 116, 105, 111, 110]⟩ : ByteArray), ⟨#[118, 97, 108, 117, 101, 40, 41]⟩ ++ sign (F.MD j).o ++ (F.MD j).tx)] (by simp) (by simp) _ _ _ _ gE capE (fun i u hi => cell_keep B8 (own_cell HownE.out hi))).mono ?_; rintro e w9 ⟨g8, cap8, rfl, hown9, hb9⟩; have hs9 : w8.heap.size ≤ w9.heap.size := hb9.size; have B9 : Below wz.heap.size wz w9 := BE.out.trans ((B8.mono sE).trans (hb9.mono (by omega))); have own8 := own_two (vl := (F.MD j).vl) hown9; (try go_wp2_with fail))
          refine hK.out _ _ ?_ (fun hHeld => ?_)
          · exact ⟨cell_keep hb9 hHeld.1, cell_keep hb9 hHeld.2.1, cell_keep hb9 hHeld.2.2.1, cell_keep hb9 hHeld.2.2.2.1, cell_keep hb9 hHeld.2.2.2.2.1, cell_keep hb9 hHeld.2.2.2.2.2.1, cell_keep hb9 hHeld.2.2.2.2.2.2.1, cell_keep hb9 hHeld.2.2.2.2.2.2.2⟩
          clear hK K
          (try simp only [Act.put, List.setIfInBounds_toArray, List.set_cons_zero, List.set_cons_succ])
          refine wpAnyT_step (i := 8) (by kernel_rfl) rfl (fun K hK => ?_)
          go_simp
          refine hK.out _ _ ?_ (fun hHeld => ?_)
          · exact ⟨alloc_keep _ hHeld.1, alloc_keep _ hHeld.2.1, alloc_keep _ hHeld.2.2.1, alloc_keep _ hHeld.2.2.2.1, alloc_keep _ hHeld.2.2.2.2.1, alloc_keep _ hHeld.2.2.2.2.2.1, alloc_keep _ hHeld.2.2.2.2.2.2.1, alloc_keep _ hHeld.2.2.2.2.2.2.2⟩
          clear hK K
          (try simp only [Act.put, List.setIfInBounds_toArray, List.set_cons_zero, List.set_cons_succ])
          refine wpAnyT_step (i := 9) (by kernel_rfl) rfl (fun K hK => ?_)
          (have own9 := owns_call own0 B9 (Obj.cells #[.bool true, .string ⟨#[]⟩, .string styleSpace, .string ⟨#[109, 97, 112]⟩, .slice (some ⟨g8, 0, none⟩) 2 cap8, .slice none 0 0] 49); have big9 : wb.heap.size ≤ w9.heap.size + 1 := (by have := (B9).size; omega); have new9 := World.news_of_block (heap_alloc_new w9 (Obj.cells #[.bool true, .string ⟨#[]⟩, .string styleSpace, .string ⟨#[109, 97, 112]⟩, .slice (some ⟨g8, 0, none⟩) 2 cap8, .slice none 0 0] 49)); refine step_append_lies _ (by rfl) _ _ _ (by rfl) wb.heap.size 49 i49 _ 6 104 Tryz.underlying47 hi49 hz49 hs49' hy49 rfl (by omega) v (F.n + j) cs (by rfl) own9 ⟨w9.heap.size, 0, none⟩ 1 1 [.bool true, .string ⟨#[]⟩, .string styleSpace, .string ⟨#[109, 97, 112]⟩, .slice (some ⟨g8, 0, none⟩) 2 cap8, .slice none 0 0] (by rfl) (by rfl) new9 (by simp [Value.oneCell']) (by omega) (by unfold maxLen; omega) (by omega) (by rw [size_alloc']; exact big9) (w9.heap.size + 1) (by rw [size_alloc']) ?_; intro g' cap' w10 hown10 hgrow hat hlt10; have x10 := far_block B9 hgrow Az.out.x far8; have q10 := six_at x10; obtain ⟨⟨x10c0, x10c1, x10c2, x10c3, x10c4, x10c5⟩, x10f0, x10f1, x10f2, x10f3, x10f4, x10f5⟩ := q10)
          refine hK.out _ _ ?_ (fun hHeld => ?_)
          · exact ⟨grown_keep hgrow hHeld.1 far8, grown_keep hgrow hHeld.2.1 u3, grown_keep hgrow hHeld.2.2.1 u13, grown_keep hgrow hHeld.2.2.2.1 u13, grown_keep hgrow hHeld.2.2.2.2.1 u13, grown_keep hgrow hHeld.2.2.2.2.2.1 u13, grown_keep hgrow hHeld.2.2.2.2.2.2.1 u13, grown_keep hgrow hHeld.2.2.2.2.2.2.2 u13⟩
          clear hK K
          (try simp only [Act.put, List.setIfInBounds_toArray, List.set_cons_zero, List.set_cons_succ])
          refine wpAnyT_take (i := 10) (v := ?_) rfl (by kernel_rfl) (by kernel_rfl) (by kernel_rfl) (by kernel_rfl) (fun _ _ _ h => h) (Or.inl ⟨by rfl, ?_⟩) (by assumption) ?_
          rotate_left; · (intro w hSw; (try dsimp only at hSw); go_simp; try with_reducible rfl)
          (try simp only [Act.put, List.setIfInBounds_toArray, List.set_cons_zero, List.set_cons_succ])
          refine wpAnyT_last (i := 11) (by kernel_rfl) rfl rfl (fun K hK => ?_)
          go_simp
          refine hK.out _ _ ?_
          clear hK K
          (try simp only [Act.put, List.setIfInBounds_toArray, List.set_cons_zero, List.set_cons_succ])
          refine wpAnyT_done (by kernel_rfl) ?_ _
          refine NoPanic.normal ?_
          --Er>
          go_wp2_with fail
          exact ⟨acc_round2 Az.out (by simp) hlt (by decide) Hsz.out B9 (node_own (owns_base own8 (by omega)) (by simp)) hown10 hgrow hat, round_measure hlt⟩
          --E>
        · obtain rfl : j = F.m := by omega
          have hlen : (A ++ whole t2).length < 4611686018427387904 := by
            have : (whole t2).length ≤ 1 := by cases t2 <;> simp [whole]
            rw [List.length_append]
            omega
          obtain rfl := Hva.out
          obtain ⟨pk, mk, rfl, hnode⟩ := node_end HB.out.lo (lt_of_some HB.out.r) Hne.out Hown.out Hacc.out hlen (by simp; omega)
          have hwc2 : w.heap.size + 2 ≤ wb.heap.size := lt_of_some HB.out.r
          have hlo := HB.out.lo
          have hrr : wr.heap[w.heap.size + 1]? = some (.cells #[.bool false, .string ⟨#[]⟩, .string ⟨#[]⟩, .string ⟨#[]⟩, .slice none 0 0, .slice none 0 0] 49 (0, 0)) := (Hacc.out.rest _ (by omega) (by omega)).trans HB.out.r
          have xl := six_at Hacc.out.x
          obtain ⟨⟨x0, x1, x2, x3, x4, x5⟩, -⟩ := xl
          have bw : Below w.heap.size w wr := HB.out.below.trans ⟨Hacc.out.os, Hacc.out.tape, Hacc.out.output, Hacc.out.size, fun k hk => Hacc.out.rest k (by omega) (by omega)⟩
          have Hrr := Lib.hid hrr
          have Hnode := Lib.hid hnode
          have Hbw := Lib.hid bw
          clear hrr hnode bw
          have yl := six_at Hrr.out
          obtain ⟨⟨y0, y1, y2, y3, y4, y5⟩, f0, f1, f2, f3, f4, f5⟩ := yl
          go_wp2_with fail
          try simp only [Exit.inBlock, Exit.then]
          refine bodyPost_ret (results_row_tmp rfl _ _ (w.heap.size + 1) 49 _ _ _ rfl (set6_block Hrr.out _ _ _ _ _ _) Tryz.underlying49 rfl size49) rfl ?_
          have hn := Hnode.out
          simp only [List.length_append, List.length_map, List.length_range] at hn
          have ht : fmtTree F nn = .mk true ⟨#[]⟩ dataSpace (kname F.k) (A ++ whole t2) ((List.range F.n).map F.pt ++ (List.range F.m).map fun j => mapTree (F.MD j)) := by
            unfold fmtTree
            rw [HAe.out, Hwh.out]
          rw [ht]
          exact ret_end hn Hbw.out
end Go.Proofs.YtkeibmkcgnppeaaGreatDoor

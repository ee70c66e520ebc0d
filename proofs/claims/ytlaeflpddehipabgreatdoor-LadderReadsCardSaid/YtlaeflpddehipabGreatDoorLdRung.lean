/- The code's reader of a line: rung. -/
import Derived.Test.YtlaeflpddehipabGreatDoorLdCells
set_option linter.unusedVariables false
set_option linter.unusedSimpArgs false
namespace Go.Proofs.YtlaeflpddehipabGreatDoor
open Go.RowKit
attribute [local go_sem ↓] Go.wp_at_zero Go.wp_at_succ

/-- What comes of a call of rung. -/
def RPost (bp : Nat) (W : World) (r : ORg) (e : Ending) (w' : World) : Prop :=
  Gr W bp w' ∧ match r with
    | .ok g => ∃ v, e = .returned (.agg #[v, .int .i64 g.kind, st g.name]) ∧ RepS w' (New W w') g.cells v
    | .bad x => e = thrown x
/-- A rung in the making. -/
structure RB (W : World) (bp b2 b3 : Nat) (t : Tr) (v : Value) (kind : Int) (nm s : Bs) (x : World) : Prop where
  gr : Gr W bp x
  lp : LP x bp s
  new2 : W.heap.size ≤ b2
  new3 : W.heap.size ≤ b3
  lt : bp < W.heap.size
  ne : b2 ≠ b3
  box2 : x.heap[b2]? = some (.cells #[.slice none 0 0, .int .i64 0, .string ⟨#[]⟩] 39 (0, 0))
  box3 : x.heap[b3]? = some (.cells #[v, .int .i64 kind, st nm] 39 (0, 0))
  rep : RepS x (fun k => New W x k ∧ k ≠ b2 ∧ k ≠ b3) t v
theorem RB.call {W x y : World} {bp b2 b3 : Nat} {t : Tr} {v : Value} {kind : Int} {nm s s' : Bs} (h : RB W bp b2 b3 t v kind nm s x) (hg : Gr x bp y) (hl : LP y bp s') : RB W bp b2 b3 t v kind nm s' y where
  gr := h.gr.trans' hg
  lp := hl
  new2 := h.new2
  new3 := h.new3
  lt := h.lt
  ne := h.ne
  box2 := hg.at' h.box2 (by have := h.new2; have := h.lt; omega)
  box3 := hg.at' h.box3 (by have := h.new3; have := h.lt; omega)
  rep := h.rep.keep fun k hk => ⟨⟨⟨hk.1.1, Nat.lt_of_lt_of_le hk.1.2 hg.size⟩, hk.2⟩, hg.block k hk.1.2 (by have := hk.1.1; have := h.lt; simp; omega)⟩
theorem RB.kind {W x : World} {bp b2 b3 : Nat} {t : Tr} {v : Value} {kind : Int} {nm s : Bs} (h : RB W bp b2 b3 t v kind nm s x) (K : Int) : RB W bp b2 b3 t v K nm s (x.setCell ⟨b3, 1, none⟩ (.int .i64 K)) where
  gr := h.gr.setNew h.new3 _ _
  lp := (heap_setCell_other _ _ _ _ (by have := h.new3; have := h.lt; simp only; omega)).trans h.lp
  new2 := h.new2
  new3 := h.new3
  lt := h.lt
  ne := h.ne
  box2 := (heap_setCell_other _ _ _ _ h.ne).trans h.box2
  box3 := (boxSet h.box3 1 _).trans (by simp)
  rep := h.rep.keep fun k hk => ⟨⟨⟨hk.1.1, by simpa [World.setCell] using hk.1.2⟩, hk.2⟩, heap_setCell_other _ _ _ _ hk.2.2⟩
theorem RB.name {W x : World} {bp b2 b3 : Nat} {t : Tr} {v : Value} {kind : Int} {nm s : Bs} (h : RB W bp b2 b3 t v kind nm s x) (n : Bs) : RB W bp b2 b3 t v kind n s (x.setCell ⟨b3, 2, none⟩ (st n)) where
  gr := h.gr.setNew h.new3 _ _
  lp := (heap_setCell_other _ _ _ _ (by have := h.new3; have := h.lt; simp only; omega)).trans h.lp
  new2 := h.new2
  new3 := h.new3
  lt := h.lt
  ne := h.ne
  box2 := (heap_setCell_other _ _ _ _ h.ne).trans h.box2
  box3 := (boxSet h.box3 2 _).trans (by simp)
  rep := h.rep.keep fun k hk => ⟨⟨⟨hk.1.1, by simpa [World.setCell] using hk.1.2⟩, hk.2⟩, heap_setCell_other _ _ _ _ hk.2.2⟩
theorem RB.start {W w3 : World} {bp : Nat} {t : Tr} {v : Value} {s : Bs} (hlt : bp < W.heap.size) (hg : Gr (W.alloc (.cells #[.slice none 0 0, .int .i64 0, .string ⟨#[]⟩] 39)) bp w3) (hl : LP w3 bp s) (hv : RepS w3 (New (W.alloc (.cells #[.slice none 0 0, .int .i64 0, .string ⟨#[]⟩] 39)) w3) t v) :
    RB W bp W.heap.size w3.heap.size t v 1 [] s (w3.alloc (.cells #[v, .int .i64 1, .string ⟨#[]⟩] 39)) := by
  have hb0 : Below W.heap.size W (W.alloc (.cells #[.slice none 0 0, .int .i64 0, .string ⟨#[]⟩] 39)) := (Below.refl _ _).alloc (Nat.le_refl _) _
  have hb3 : Below w3.heap.size w3 (w3.alloc (.cells #[v, .int .i64 1, .string ⟨#[]⟩] 39)) := (Below.refl _ _).alloc (Nat.le_refl _) _
  have hs := hg.size
  rw [World.size_alloc] at hs
  have hx : w3.heap[W.heap.size]? = some (.cells #[.slice none 0 0, .int .i64 0, .string ⟨#[]⟩] 39 (0, 0)) := hg.at' (heap_alloc_new W _) (by omega)
  refine ⟨(((Gr.of W bp).below hb0).trans' hg).below hb3, (hb3.block bp (boxLt hl)).trans hl, Nat.le_refl _, by omega, hlt, by omega, (hb3.block _ (by omega)).trans hx, heap_alloc_new w3 _, hv.keep fun k hk => ⟨⟨⟨?_, Nat.lt_of_lt_of_le hk.2 hb3.size⟩, ?_, ?_⟩, hb3.block k hk.2⟩⟩
  · have := hk.1; rw [World.size_alloc] at this; omega
  · have := hk.1; rw [World.size_alloc] at this; omega
  · have := hk.2; omega
theorem RB.done {W x : World} {bp b2 b3 : Nat} {t : Tr} {v : Value} {kind : Int} {nm s : Bs} (h : RB W bp b2 b3 t v kind nm s x) (a b c : Value) {X : World} (hX : ((x.setCell ⟨b2, 0, none⟩ a).setCell ⟨b2, 1, none⟩ b).setCell ⟨b2, 2, none⟩ c = X) : Gr W bp X ∧ RepS X (New W X) t v ∧ X.heap[b2]? = some (.cells #[a, b, c] 39 (0, 0)) := by
  subst hX
  refine ⟨((h.gr.setNew h.new2 _ _).setNew h.new2 _ _).setNew h.new2 _ _, h.rep.keep fun k hk => ⟨⟨hk.1.1, by simpa [World.setCell] using hk.1.2⟩, ((heap_setCell_other _ _ _ _ hk.2.1).trans (heap_setCell_other _ _ _ _ hk.2.1)).trans (heap_setCell_other _ _ _ _ hk.2.1)⟩, ?_⟩
  exact (boxSet (boxSet (boxSet h.box2 0 _) 1 _) 2 _).trans (by simp)
theorem cells_nine (s : Bs) (r : Out) (h : PC 9 s r) (bp : Nat) (hbp : bp ≠ 1) (w : World) (hl : LP w bp s) (hkp : Kept w) (hs : s.length ≤ 1000000) : Calls Tryz.prog 50 #[.pointer (some ⟨bp, 0, none⟩), .int .i64 0] w (CPost bp w r) := cells_any 9 (Nat.le_refl _) s r h bp hbp w hl hkp hs
theorem take2_yes (s t : Bs) (a b : UInt8) (hb : bk s = a :: b :: t) (bp : Nat) (w : World) (h : LP w bp s) : Calls Tryz.prog 51 #[.pointer (some ⟨bp, 0, none⟩), .string ⟨#[a, b]⟩] w fun e w' => e = .returned (.bool true) ∧ LP w' bp t ∧ Gr w bp w' := by
  have h0 := take_any s [a, b] bp w h
  rw [hb] at h0
  have e1 : Lib.hasPrefix (a :: b :: t) [a, b] = true := by simp [Lib.hasPrefix]
  have e2 : Lib.trimPrefix (a :: b :: t) [a, b] = t := by simp [Lib.trimPrefix, e1]
  rw [e1, e2] at h0
  exact h0
theorem take2_no (s : Bs) (a b : UInt8) (hb : ∀ t, bk s ≠ a :: b :: t) (bp : Nat) (w : World) (h : LP w bp s) : Calls Tryz.prog 51 #[.pointer (some ⟨bp, 0, none⟩), .string ⟨#[a, b]⟩] w fun e w' => e = .returned (.bool false) ∧ LP w' bp (bk s) ∧ Gr w bp w' := by
  have h0 := take_any s [a, b] bp w h
  have e1 : Lib.hasPrefix (bk s) [a, b] = false := by
    cases h1 : Lib.hasPrefix (bk s) [a, b] with
    | false => rfl
    | true =>
      unfold Lib.hasPrefix at h1
      obtain ⟨t, ht⟩ := List.isPrefixOf_iff_prefix.1 h1
      exact absurd ht.symm (hb t)
  have e2 : Lib.trimPrefix (bk s) [a, b] = bk s := by simp [Lib.trimPrefix, e1]
  rw [e1, e2] at h0
  exact h0
theorem kind_cases (u : Bs) : (∃ q, bk u = 47 :: q ∧ kindOf u = (2, q)) ∨ (∃ q, bk u = 83 :: 32 :: q ∧ kindOf u = (3, q)) ∨ (∃ q, bk u = 82 :: 32 :: q ∧ kindOf u = (4, q)) ∨ ((bk u).head? ≠ some 47 ∧ (∀ q, bk u ≠ 83 :: 32 :: q) ∧ (∀ q, bk u ≠ 82 :: 32 :: q) ∧ kindOf u = (1, bk u)) := by
  unfold kindOf
  split
  · rename_i t h; exact .inl ⟨t, h, rfl⟩
  · rename_i t h; exact .inr (.inl ⟨t, h, rfl⟩)
  · rename_i t h; exact .inr (.inr (.inl ⟨t, h, rfl⟩))
  · rename_i h1 h2 h3
    refine .inr (.inr (.inr ⟨fun e => ?_, h2, h3, rfl⟩))
    cases hb : bk u with
    | nil => rw [hb] at e; cases e
    | cons c t => rw [hb] at e; simp at e; exact h1 t (by rw [hb, e])
theorem rungOf_head {t : Tr} {s : Bs} (h : (bk s).head? ≠ some 40) : rungOf (.ok t s) = .bad 3 := by
  unfold rungOf
  cases hb : bk s with
  | nil => simp only [hb]
  | cons c u =>
    simp only [hb]
    split
    · rename_i e; cases e; rw [hb] at h; exact absurd rfl h
    · rfl
theorem rungOf_is {t : Tr} {s u q : Bs} {K : Int} (h : bk s = 40 :: u) (hk : kindOf u = (K, q)) : rungOf (.ok t s) = if goodName (nmOf q) = true then (match bk (nmRest q) with
    | 41 :: v => if bk v = [] then .ok ⟨t, K, nmOf q⟩ else .bad 3
    | _ => .bad 3) else .bad 3 := by
  unfold rungOf
  simp only [h, hk]
  rfl
theorem rungOf_close {t : Tr} {s u q : Bs} {K : Int} (h : bk s = 40 :: u) (hk : kindOf u = (K, q)) (h2 : (bk (nmRest q)).head? ≠ some 41) : rungOf (.ok t s) = .bad 3 := by
  rw [rungOf_is h hk]
  split
  · split
    · rename_i e; rw [e] at h2; exact absurd rfl h2
    · rfl
  · rfl
theorem rungOf_end {t : Tr} {s u q v : Bs} {K : Int} (h : bk s = 40 :: u) (hk : kindOf u = (K, q)) (hg : goodName (nmOf q) = true) (h2 : bk (nmRest q) = 41 :: v) : rungOf (.ok t s) = if bk v = [] then .ok ⟨t, K, nmOf q⟩ else .bad 3 := by
  rw [rungOf_is h hk, if_pos hg, h2]
  rfl
theorem head_or (s : Bs) (c : UInt8) : (bk s).head? ≠ some c ∨ ∃ t, bk s = c :: t := by
  cases hb : bk s with
  | nil => exact .inl (by simp)
  | cons x t =>
    by_cases hx : x = c
    · subst hx; exact .inr ⟨t, rfl⟩
    · exact .inl (by simpa using hx)
set_option maxHeartbeats 3200000 in
theorem rung_any (s : Bs) (bp : Nat) (hbp : bp ≠ 1) (w : World) (h : LP w bp s) (hkp : Kept w) (hs : s.length ≤ 1000000) :
    Calls Tryz.prog 25 #[.pointer (some ⟨bp, 0, none⟩)] w (RPost bp w (rung s)) := by
  have H := hid h
  have HK := hid hkp
  have hout := outOf_is s
  obtain ⟨o, ho⟩ : ∃ o, outOf s = o := ⟨_, rfl⟩
  have HR : Hid (rung s = rungOf o) := hid (by unfold rung; rw [ho])
  rw [ho] at hout
  have hlt := boxLt h
  have HB0 := hid (show Below w.heap.size w (w.alloc (.cells #[.slice none 0 0, .int .i64 0, .string ⟨#[]⟩] 39)) from (Below.refl _ _).alloc (Nat.le_refl _) _)
  have H0 := hid (show LP (w.alloc (.cells #[.slice none 0 0, .int .i64 0, .string ⟨#[]⟩] 39)) bp s from (HB0.out.block bp hlt).trans h)
  have HK0 := hid (hkp.below HB0.out)
  have HOUT := hid hout
  clear h hkp ho hout
  go_enter Tryz.func25, Tryz.ntmps25
  go_upto_region 1 with fail
  cases o with
  | bad x =>
    go_wp2_with (go_at_call 50; (with_reducible refine (cells_nine s _ HOUT.out bp hbp _ H0.out HK0.out hs).mono ?_); rintro e w3 ⟨hg3, hx⟩; dsimp only at hx; subst hx; unfold thrown)
    exact ⟨rfl, (((Gr.of w bp).below HB0.out).trans' hg3), by rw [HR.out]; rfl⟩
  | ok t s1 =>
    have hsh := PC.shrinks 9 _ _ _ HOUT.out
    go_upto_region 2 with (go_at_call 50; (with_reducible refine (cells_nine s _ HOUT.out bp hbp _ H0.out HK0.out hs).mono ?_); rintro e w3 ⟨hg3, v, rfl, hv3, hl3⟩; obtain ⟨a1, q1, rfl⟩ := hv3.form; have B3 := hid (RB.start hlt hg3 hl3 hv3); clear hg3 hv3 hl3)
    obtain ⟨b3, hb3⟩ : ∃ b3, w3.heap.size = b3 := ⟨_, rfl⟩
    obtain ⟨b2, hb2⟩ : ∃ b2, w.heap.size = b2 := ⟨_, rfl⟩
    rw [hb3, hb2] at B3
    rw [hb3, hb2]
    generalize w3.alloc _ = wb at B3 ⊢
    clear hb3 hb2
    rcases head_or s1 40 with h40 | ⟨u, h40⟩
    · have H40 := hid h40
      clear h40
      go_wp2_with (first
        | (go_at_call 51; (with_reducible refine (take_no s1 40 H40.out bp wb B3.out.lp).mono ?_); rintro e w4 ⟨rfl, h4, hg4⟩; have B4 := hid (B3.out.call hg4 h4); clear h4 hg4)
        | (go_at_call 24; (with_reducible refine (fail_any 3 w4).mono ?_); rintro e w5 ⟨rfl, hw⟩; subst w5; unfold thrown))
      exact ⟨rfl, B4.out.gr, by rw [HR.out, rungOf_head H40.out]; rfl⟩
    · have H40 := hid h40
      have hul : u.length + 1 ≤ s1.length := by have h1 := bk_len s1; rw [h40] at h1; simpa using h1
      clear h40
      go_upto_region 4 with (go_at_call 51; (with_reducible refine (take_yes s1 u 40 H40.out bp wb B3.out.lp).mono ?_); rintro e w4 ⟨rfl, h4, hg4⟩; have B4 := hid (B3.out.call hg4 h4); clear h4 hg4)
      rcases kind_cases u with ⟨q, hq, hkd⟩ | ⟨q, hq, hkd⟩ | ⟨q, hq, hkd⟩ | ⟨hq1, hq2, hq3, hkd⟩
      · have HQ := hid hq
        have hql : q.length ≤ 1000000 := by have h1 := bk_len u; rw [hq] at h1; simp at h1; omega
        clear hq
        go_upto_region 10 with (go_at_call 51; (with_reducible refine (take_yes u q 47 HQ.out bp w4 B4.out.lp).mono ?_); rintro e w5 ⟨rfl, h5, hg5⟩; have B5 := hid (B4.out.call hg5 h5); (have hf3 := free_block B5.out.box3); (have hlt3 := boxLt B5.out.box3); (have d1 : w5.cell? ⟨b3, 1, none⟩ = some (.int .i64 1) := (cell_block B5.out.box3 1).trans rfl); clear h5 hg5)
        have BN := hid (B5.out.kind 2)
        generalize w5.setCell _ _ = wn at BN ⊢
        clear B5 hf3 hlt3 d1
        have HKD := hid hkd
        have HKN := hid (HK.out.gr BN.out.gr hbp)
        clear hkd
        cases hgn : goodName (nmOf q) with
        | false =>
          have HGN := hid hgn
          clear hgn
          go_wp2_with (go_at_call 52; (with_reducible refine (name_bad q HGN.out bp hbp wn BN.out.lp HKN.out hql).mono ?_); rintro e w8 ⟨rfl, hg8⟩; unfold thrown)
          exact ⟨rfl, BN.out.gr.trans' hg8, by rw [HR.out, rungOf_is H40.out HKD.out, HGN.out]; rfl⟩
        | true =>
          have HGN := hid hgn
          clear hgn
          go_upto_region 11 with (go_at_call 52; (with_reducible refine (name_ok q HGN.out bp hbp wn BN.out.lp HKN.out hql).mono ?_); rintro e w8 ⟨rfl, h8, hg8⟩; have B8 := hid (BN.out.call hg8 h8); (have hf3 := free_block B8.out.box3); (have hlt3 := boxLt B8.out.box3); (have d2 : w8.cell? ⟨b3, 2, none⟩ = some (st []) := (cell_block B8.out.box3 2).trans rfl); clear h8 hg8)
          have B9 := hid (B8.out.name (nmOf q))
          generalize w8.setCell _ _ = w9 at B9 ⊢
          clear B8 hf3 hlt3 d2
          rcases head_or (nmRest q) 41 with h41 | ⟨z, h41⟩
          · have H41 := hid h41
            clear h41
            go_wp2_with (first
              | (go_at_call 51; (with_reducible refine (take_no (nmRest q) 41 H41.out bp w9 B9.out.lp).mono ?_); rintro e w10 ⟨rfl, h10, hg10⟩; have B10 := hid (B9.out.call hg10 h10); clear h10 hg10)
              | (go_at_call 24; (with_reducible refine (fail_any 3 w10).mono ?_); rintro e w11 ⟨rfl, hw⟩; subst w11; unfold thrown))
            exact ⟨rfl, B10.out.gr, by rw [HR.out, rungOf_close H40.out HKD.out H41.out]; rfl⟩
          · have H41 := hid h41
            clear h41
            go_upto_region 14 with (first
              | (go_at_call 51; (with_reducible refine (take_yes (nmRest q) z 41 H41.out bp w9 B9.out.lp).mono ?_); rintro e w10 ⟨rfl, h10, hg10⟩; have B10 := hid (B9.out.call hg10 h10); clear h10 hg10)
              | (go_at_call 53; (with_reducible refine (blanks_any z bp w10 B10.out.lp).mono ?_); rintro e w11 ⟨rfl, h11, hg11⟩; have B11 := hid (B10.out.call hg11 h11); clear h11 hg11))
            have HE := hid (rungOf_end (t := t) H40.out HKD.out HGN.out H41.out)
            cases hz : bk z with
            | nil =>
              rw [hz] at B11
              have HZ := hid hz
              clear hz
              have c0 : w11.cell? ⟨bp, 0, none⟩ = some (st []) := (cell_block B11.out.lp 0).trans rfl
              have d0 : w11.cell? ⟨b3, 0, none⟩ = some (.slice a1 t.len q1) := (cell_block B11.out.box3 0).trans rfl
              have d1 : w11.cell? ⟨b3, 1, none⟩ = some (.int .i64 2) := (cell_block B11.out.box3 1).trans rfl
              have d2 : w11.cell? ⟨b3, 2, none⟩ = some (st (nmOf q)) := (cell_block B11.out.box3 2).trans rfl
              have hf2 := free_block B11.out.box2
              have hl2 := boxLt B11.out.box2
              have e0 : w11.cell? ⟨b2, 0, none⟩ = some (.slice none 0 0) := (cell_block B11.out.box2 0).trans rfl
              have e1 : w11.cell? ⟨b2, 1, none⟩ = some (.int .i64 0) := (cell_block B11.out.box2 1).trans rfl
              have e2 : w11.cell? ⟨b2, 2, none⟩ = some (st []) := (cell_block B11.out.box2 2).trans rfl
              go_wp2_with fail
              obtain ⟨X, hX⟩ : ∃ X, ((w11.setCell ⟨b2, 0, none⟩ (.slice a1 t.len q1)).setCell ⟨b2, 1, none⟩ (.int .i64 2)).setCell ⟨b2, 2, none⟩ (.string ⟨(nmOf q).toArray⟩) = X := ⟨_, rfl⟩
              rw [hX]
              obtain ⟨g1, g2, g3⟩ := B11.out.done _ _ _ hX
              refine ⟨rfl, .agg #[.slice a1 t.len q1, .int .i64 2, st (nmOf q)], ?_, ?_⟩
              · exact results_cell_row rfl _ X b2 39 _ (0, 0) _ rfl g3 Tryz.underlying39 rfl (by kernel_rfl)
              · exact ⟨g1, by rw [HR.out, HE.out, if_pos HZ.out]; exact ⟨_, rfl, g2⟩⟩
            | cons c z' =>
              rw [hz] at B11
              have HZ := hid hz
              clear hz
              have c0 : w11.cell? ⟨bp, 0, none⟩ = some (st (c :: z')) := (cell_block B11.out.lp 0).trans rfl
              go_wp2_with (go_at_call 24; (with_reducible refine (fail_any 3 w11).mono ?_); rintro e w12 ⟨rfl, hw⟩; subst w12; unfold thrown)
              exact ⟨rfl, B11.out.gr, by rw [HR.out, HE.out, if_neg (by rw [HZ.out]; simp)]; rfl⟩
      · have HQ := hid (show bk (bk u) = 83 :: 32 :: q by rw [bk_bk, hq])
        have H47 := hid (show (bk u).head? ≠ some 47 by rw [hq]; simp)
        have hql : q.length ≤ 1000000 := by have h1 := bk_len u; rw [hq] at h1; simp at h1; omega
        clear hq
        go_upto_region 10 with (first
          | (go_at_call 51; (with_reducible refine (take_no u 47 H47.out bp w4 B4.out.lp).mono ?_); rintro e w5 ⟨rfl, h5, hg5⟩; have B5 := hid (B4.out.call hg5 h5); clear h5 hg5)
          | (go_at_call 51; (with_reducible refine (take2_yes (bk u) q 83 32 HQ.out bp w5 B5.out.lp).mono ?_); rintro e w6 ⟨rfl, h6, hg6⟩; have B6 := hid (B5.out.call hg6 h6); (have hf3 := free_block B6.out.box3); (have hlt3 := boxLt B6.out.box3); (have d1 : w6.cell? ⟨b3, 1, none⟩ = some (.int .i64 1) := (cell_block B6.out.box3 1).trans rfl); clear h6 hg6))
        have BN := hid (B6.out.kind 3)
        generalize w6.setCell _ _ = wn at BN ⊢
        clear B5 B6 hf3 hlt3 d1
        have HKD := hid hkd
        have HKN := hid (HK.out.gr BN.out.gr hbp)
        clear hkd
        cases hgn : goodName (nmOf q) with
        | false =>
          have HGN := hid hgn
          clear hgn
          go_wp2_with (go_at_call 52; (with_reducible refine (name_bad q HGN.out bp hbp wn BN.out.lp HKN.out hql).mono ?_); rintro e w8 ⟨rfl, hg8⟩; unfold thrown)
          exact ⟨rfl, BN.out.gr.trans' hg8, by rw [HR.out, rungOf_is H40.out HKD.out, HGN.out]; rfl⟩
        | true =>
          have HGN := hid hgn
          clear hgn
          go_upto_region 11 with (go_at_call 52; (with_reducible refine (name_ok q HGN.out bp hbp wn BN.out.lp HKN.out hql).mono ?_); rintro e w8 ⟨rfl, h8, hg8⟩; have B8 := hid (BN.out.call hg8 h8); (have hf3 := free_block B8.out.box3); (have hlt3 := boxLt B8.out.box3); (have d2 : w8.cell? ⟨b3, 2, none⟩ = some (st []) := (cell_block B8.out.box3 2).trans rfl); clear h8 hg8)
          have B9 := hid (B8.out.name (nmOf q))
          generalize w8.setCell _ _ = w9 at B9 ⊢
          clear B8 hf3 hlt3 d2
          rcases head_or (nmRest q) 41 with h41 | ⟨z, h41⟩
          · have H41 := hid h41
            clear h41
            go_wp2_with (first
              | (go_at_call 51; (with_reducible refine (take_no (nmRest q) 41 H41.out bp w9 B9.out.lp).mono ?_); rintro e w10 ⟨rfl, h10, hg10⟩; have B10 := hid (B9.out.call hg10 h10); clear h10 hg10)
              | (go_at_call 24; (with_reducible refine (fail_any 3 w10).mono ?_); rintro e w11 ⟨rfl, hw⟩; subst w11; unfold thrown))
            exact ⟨rfl, B10.out.gr, by rw [HR.out, rungOf_close H40.out HKD.out H41.out]; rfl⟩
          · have H41 := hid h41
            clear h41
            go_upto_region 14 with (first
              | (go_at_call 51; (with_reducible refine (take_yes (nmRest q) z 41 H41.out bp w9 B9.out.lp).mono ?_); rintro e w10 ⟨rfl, h10, hg10⟩; have B10 := hid (B9.out.call hg10 h10); clear h10 hg10)
              | (go_at_call 53; (with_reducible refine (blanks_any z bp w10 B10.out.lp).mono ?_); rintro e w11 ⟨rfl, h11, hg11⟩; have B11 := hid (B10.out.call hg11 h11); clear h11 hg11))
            have HE := hid (rungOf_end (t := t) H40.out HKD.out HGN.out H41.out)
            cases hz : bk z with
            | nil =>
              rw [hz] at B11
              have HZ := hid hz
              clear hz
              have c0 : w11.cell? ⟨bp, 0, none⟩ = some (st []) := (cell_block B11.out.lp 0).trans rfl
              have d0 : w11.cell? ⟨b3, 0, none⟩ = some (.slice a1 t.len q1) := (cell_block B11.out.box3 0).trans rfl
              have d1 : w11.cell? ⟨b3, 1, none⟩ = some (.int .i64 3) := (cell_block B11.out.box3 1).trans rfl
              have d2 : w11.cell? ⟨b3, 2, none⟩ = some (st (nmOf q)) := (cell_block B11.out.box3 2).trans rfl
              have hf2 := free_block B11.out.box2
              have hl2 := boxLt B11.out.box2
              have e0 : w11.cell? ⟨b2, 0, none⟩ = some (.slice none 0 0) := (cell_block B11.out.box2 0).trans rfl
              have e1 : w11.cell? ⟨b2, 1, none⟩ = some (.int .i64 0) := (cell_block B11.out.box2 1).trans rfl
              have e2 : w11.cell? ⟨b2, 2, none⟩ = some (st []) := (cell_block B11.out.box2 2).trans rfl
              go_wp2_with fail
              obtain ⟨X, hX⟩ : ∃ X, ((w11.setCell ⟨b2, 0, none⟩ (.slice a1 t.len q1)).setCell ⟨b2, 1, none⟩ (.int .i64 3)).setCell ⟨b2, 2, none⟩ (.string ⟨(nmOf q).toArray⟩) = X := ⟨_, rfl⟩
              rw [hX]
              obtain ⟨g1, g2, g3⟩ := B11.out.done _ _ _ hX
              refine ⟨rfl, .agg #[.slice a1 t.len q1, .int .i64 3, st (nmOf q)], ?_, ?_⟩
              · exact results_cell_row rfl _ X b2 39 _ (0, 0) _ rfl g3 Tryz.underlying39 rfl (by kernel_rfl)
              · exact ⟨g1, by rw [HR.out, HE.out, if_pos HZ.out]; exact ⟨_, rfl, g2⟩⟩
            | cons c z' =>
              rw [hz] at B11
              have HZ := hid hz
              clear hz
              have c0 : w11.cell? ⟨bp, 0, none⟩ = some (st (c :: z')) := (cell_block B11.out.lp 0).trans rfl
              go_wp2_with (go_at_call 24; (with_reducible refine (fail_any 3 w11).mono ?_); rintro e w12 ⟨rfl, hw⟩; subst w12; unfold thrown)
              exact ⟨rfl, B11.out.gr, by rw [HR.out, HE.out, if_neg (by rw [HZ.out]; simp)]; rfl⟩
      · have HQ := hid (show bk (bk (bk u)) = 82 :: 32 :: q by rw [bk_bk, bk_bk, hq])
        have H47 := hid (show (bk u).head? ≠ some 47 by rw [hq]; simp)
        have HS := hid (show ∀ t, bk (bk u) ≠ 83 :: 32 :: t by rw [bk_bk, hq]; intro t e; cases e)
        have hql : q.length ≤ 1000000 := by have h1 := bk_len u; rw [hq] at h1; simp at h1; omega
        clear hq
        go_upto_region 10 with (first
          | (go_at_call 51; (with_reducible refine (take_no u 47 H47.out bp w4 B4.out.lp).mono ?_); rintro e w5 ⟨rfl, h5, hg5⟩; have B5 := hid (B4.out.call hg5 h5); clear h5 hg5)
          | (go_at_call 51; (with_reducible refine (take2_no (bk u) 83 32 HS.out bp w5 B5.out.lp).mono ?_); rintro e w6 ⟨rfl, h6, hg6⟩; have B6 := hid (B5.out.call hg6 h6); clear h6 hg6)
          | (go_at_call 51; (with_reducible refine (take2_yes (bk (bk u)) q 82 32 HQ.out bp w6 B6.out.lp).mono ?_); rintro e w7 ⟨rfl, h7, hg7⟩; have B7 := hid (B6.out.call hg7 h7); (have hf3 := free_block B7.out.box3); (have hlt3 := boxLt B7.out.box3); (have d1 : w7.cell? ⟨b3, 1, none⟩ = some (.int .i64 1) := (cell_block B7.out.box3 1).trans rfl); clear h7 hg7))
        have BN := hid (B7.out.kind 4)
        generalize w7.setCell _ _ = wn at BN ⊢
        clear B5 B6 B7 hf3 hlt3 d1
        have HKD := hid hkd
        have HKN := hid (HK.out.gr BN.out.gr hbp)
        clear hkd
        cases hgn : goodName (nmOf q) with
        | false =>
          have HGN := hid hgn
          clear hgn
          go_wp2_with (go_at_call 52; (with_reducible refine (name_bad q HGN.out bp hbp wn BN.out.lp HKN.out hql).mono ?_); rintro e w8 ⟨rfl, hg8⟩; unfold thrown)
          exact ⟨rfl, BN.out.gr.trans' hg8, by rw [HR.out, rungOf_is H40.out HKD.out, HGN.out]; rfl⟩
        | true =>
          have HGN := hid hgn
          clear hgn
          go_upto_region 11 with (go_at_call 52; (with_reducible refine (name_ok q HGN.out bp hbp wn BN.out.lp HKN.out hql).mono ?_); rintro e w8 ⟨rfl, h8, hg8⟩; have B8 := hid (BN.out.call hg8 h8); (have hf3 := free_block B8.out.box3); (have hlt3 := boxLt B8.out.box3); (have d2 : w8.cell? ⟨b3, 2, none⟩ = some (st []) := (cell_block B8.out.box3 2).trans rfl); clear h8 hg8)
          have B9 := hid (B8.out.name (nmOf q))
          generalize w8.setCell _ _ = w9 at B9 ⊢
          clear B8 hf3 hlt3 d2
          rcases head_or (nmRest q) 41 with h41 | ⟨z, h41⟩
          · have H41 := hid h41
            clear h41
            go_wp2_with (first
              | (go_at_call 51; (with_reducible refine (take_no (nmRest q) 41 H41.out bp w9 B9.out.lp).mono ?_); rintro e w10 ⟨rfl, h10, hg10⟩; have B10 := hid (B9.out.call hg10 h10); clear h10 hg10)
              | (go_at_call 24; (with_reducible refine (fail_any 3 w10).mono ?_); rintro e w11 ⟨rfl, hw⟩; subst w11; unfold thrown))
            exact ⟨rfl, B10.out.gr, by rw [HR.out, rungOf_close H40.out HKD.out H41.out]; rfl⟩
          · have H41 := hid h41
            clear h41
            go_upto_region 14 with (first
              | (go_at_call 51; (with_reducible refine (take_yes (nmRest q) z 41 H41.out bp w9 B9.out.lp).mono ?_); rintro e w10 ⟨rfl, h10, hg10⟩; have B10 := hid (B9.out.call hg10 h10); clear h10 hg10)
              | (go_at_call 53; (with_reducible refine (blanks_any z bp w10 B10.out.lp).mono ?_); rintro e w11 ⟨rfl, h11, hg11⟩; have B11 := hid (B10.out.call hg11 h11); clear h11 hg11))
            have HE := hid (rungOf_end (t := t) H40.out HKD.out HGN.out H41.out)
            cases hz : bk z with
            | nil =>
              rw [hz] at B11
              have HZ := hid hz
              clear hz
              have c0 : w11.cell? ⟨bp, 0, none⟩ = some (st []) := (cell_block B11.out.lp 0).trans rfl
              have d0 : w11.cell? ⟨b3, 0, none⟩ = some (.slice a1 t.len q1) := (cell_block B11.out.box3 0).trans rfl
              have d1 : w11.cell? ⟨b3, 1, none⟩ = some (.int .i64 4) := (cell_block B11.out.box3 1).trans rfl
              have d2 : w11.cell? ⟨b3, 2, none⟩ = some (st (nmOf q)) := (cell_block B11.out.box3 2).trans rfl
              have hf2 := free_block B11.out.box2
              have hl2 := boxLt B11.out.box2
              have e0 : w11.cell? ⟨b2, 0, none⟩ = some (.slice none 0 0) := (cell_block B11.out.box2 0).trans rfl
              have e1 : w11.cell? ⟨b2, 1, none⟩ = some (.int .i64 0) := (cell_block B11.out.box2 1).trans rfl
              have e2 : w11.cell? ⟨b2, 2, none⟩ = some (st []) := (cell_block B11.out.box2 2).trans rfl
              go_wp2_with fail
              obtain ⟨X, hX⟩ : ∃ X, ((w11.setCell ⟨b2, 0, none⟩ (.slice a1 t.len q1)).setCell ⟨b2, 1, none⟩ (.int .i64 4)).setCell ⟨b2, 2, none⟩ (.string ⟨(nmOf q).toArray⟩) = X := ⟨_, rfl⟩
              rw [hX]
              obtain ⟨g1, g2, g3⟩ := B11.out.done _ _ _ hX
              refine ⟨rfl, .agg #[.slice a1 t.len q1, .int .i64 4, st (nmOf q)], ?_, ?_⟩
              · exact results_cell_row rfl _ X b2 39 _ (0, 0) _ rfl g3 Tryz.underlying39 rfl (by kernel_rfl)
              · exact ⟨g1, by rw [HR.out, HE.out, if_pos HZ.out]; exact ⟨_, rfl, g2⟩⟩
            | cons c z' =>
              rw [hz] at B11
              have HZ := hid hz
              clear hz
              have c0 : w11.cell? ⟨bp, 0, none⟩ = some (st (c :: z')) := (cell_block B11.out.lp 0).trans rfl
              go_wp2_with (go_at_call 24; (with_reducible refine (fail_any 3 w11).mono ?_); rintro e w12 ⟨rfl, hw⟩; subst w12; unfold thrown)
              exact ⟨rfl, B11.out.gr, by rw [HR.out, HE.out, if_neg (by rw [HZ.out]; simp)]; rfl⟩
      · obtain ⟨q, hqe⟩ : ∃ q, bk u = q := ⟨_, rfl⟩
        have H47 := hid hq1
        have HS := hid (show ∀ t, bk (bk u) ≠ 83 :: 32 :: t by rw [bk_bk]; exact hq2)
        have HRR := hid (show ∀ t, bk (bk (bk u)) ≠ 82 :: 32 :: t by rw [bk_bk, bk_bk]; exact hq3)
        have hql : q.length ≤ 1000000 := by have h1 := bk_len u; rw [hqe] at h1; omega
        have HQE := hid (show bk (bk (bk u)) = q by rw [bk_bk, bk_bk, hqe])
        rw [hqe] at hkd
        clear hq1 hq2 hq3 hqe
        go_upto_region 10 with (first
          | (go_at_call 51; (with_reducible refine (take_no u 47 H47.out bp w4 B4.out.lp).mono ?_); rintro e w5 ⟨rfl, h5, hg5⟩; have B5 := hid (B4.out.call hg5 h5); clear h5 hg5)
          | (go_at_call 51; (with_reducible refine (take2_no (bk u) 83 32 HS.out bp w5 B5.out.lp).mono ?_); rintro e w6 ⟨rfl, h6, hg6⟩; have B6 := hid (B5.out.call hg6 h6); clear h6 hg6)
          | (go_at_call 51; (with_reducible refine (take2_no (bk (bk u)) 82 32 HRR.out bp w6 B6.out.lp).mono ?_); rintro e w7 ⟨rfl, h7, hg7⟩; rw [HQE.out] at h7; have BN := hid (B6.out.call hg7 h7); clear h7 hg7))
        rename World => wn
        clear B5 B6
        have HKD := hid hkd
        have HKN := hid (HK.out.gr BN.out.gr hbp)
        clear hkd
        cases hgn : goodName (nmOf q) with
        | false =>
          have HGN := hid hgn
          clear hgn
          go_wp2_with (go_at_call 52; (with_reducible refine (name_bad q HGN.out bp hbp wn BN.out.lp HKN.out hql).mono ?_); rintro e w8 ⟨rfl, hg8⟩; unfold thrown)
          exact ⟨rfl, BN.out.gr.trans' hg8, by rw [HR.out, rungOf_is H40.out HKD.out, HGN.out]; rfl⟩
        | true =>
          have HGN := hid hgn
          clear hgn
          go_upto_region 11 with (go_at_call 52; (with_reducible refine (name_ok q HGN.out bp hbp wn BN.out.lp HKN.out hql).mono ?_); rintro e w8 ⟨rfl, h8, hg8⟩; have B8 := hid (BN.out.call hg8 h8); (have hf3 := free_block B8.out.box3); (have hlt3 := boxLt B8.out.box3); (have d2 : w8.cell? ⟨b3, 2, none⟩ = some (st []) := (cell_block B8.out.box3 2).trans rfl); clear h8 hg8)
          have B9 := hid (B8.out.name (nmOf q))
          generalize w8.setCell _ _ = w9 at B9 ⊢
          clear B8 hf3 hlt3 d2
          rcases head_or (nmRest q) 41 with h41 | ⟨z, h41⟩
          · have H41 := hid h41
            clear h41
            go_wp2_with (first
              | (go_at_call 51; (with_reducible refine (take_no (nmRest q) 41 H41.out bp w9 B9.out.lp).mono ?_); rintro e w10 ⟨rfl, h10, hg10⟩; have B10 := hid (B9.out.call hg10 h10); clear h10 hg10)
              | (go_at_call 24; (with_reducible refine (fail_any 3 w10).mono ?_); rintro e w11 ⟨rfl, hw⟩; subst w11; unfold thrown))
            exact ⟨rfl, B10.out.gr, by rw [HR.out, rungOf_close H40.out HKD.out H41.out]; rfl⟩
          · have H41 := hid h41
            clear h41
            go_upto_region 14 with (first
              | (go_at_call 51; (with_reducible refine (take_yes (nmRest q) z 41 H41.out bp w9 B9.out.lp).mono ?_); rintro e w10 ⟨rfl, h10, hg10⟩; have B10 := hid (B9.out.call hg10 h10); clear h10 hg10)
              | (go_at_call 53; (with_reducible refine (blanks_any z bp w10 B10.out.lp).mono ?_); rintro e w11 ⟨rfl, h11, hg11⟩; have B11 := hid (B10.out.call hg11 h11); clear h11 hg11))
            have HE := hid (rungOf_end (t := t) H40.out HKD.out HGN.out H41.out)
            cases hz : bk z with
            | nil =>
              rw [hz] at B11
              have HZ := hid hz
              clear hz
              have c0 : w11.cell? ⟨bp, 0, none⟩ = some (st []) := (cell_block B11.out.lp 0).trans rfl
              have d0 : w11.cell? ⟨b3, 0, none⟩ = some (.slice a1 t.len q1) := (cell_block B11.out.box3 0).trans rfl
              have d1 : w11.cell? ⟨b3, 1, none⟩ = some (.int .i64 1) := (cell_block B11.out.box3 1).trans rfl
              have d2 : w11.cell? ⟨b3, 2, none⟩ = some (st (nmOf q)) := (cell_block B11.out.box3 2).trans rfl
              have hf2 := free_block B11.out.box2
              have hl2 := boxLt B11.out.box2
              have e0 : w11.cell? ⟨b2, 0, none⟩ = some (.slice none 0 0) := (cell_block B11.out.box2 0).trans rfl
              have e1 : w11.cell? ⟨b2, 1, none⟩ = some (.int .i64 0) := (cell_block B11.out.box2 1).trans rfl
              have e2 : w11.cell? ⟨b2, 2, none⟩ = some (st []) := (cell_block B11.out.box2 2).trans rfl
              go_wp2_with fail
              obtain ⟨X, hX⟩ : ∃ X, ((w11.setCell ⟨b2, 0, none⟩ (.slice a1 t.len q1)).setCell ⟨b2, 1, none⟩ (.int .i64 1)).setCell ⟨b2, 2, none⟩ (.string ⟨(nmOf q).toArray⟩) = X := ⟨_, rfl⟩
              rw [hX]
              obtain ⟨g1, g2, g3⟩ := B11.out.done _ _ _ hX
              refine ⟨rfl, .agg #[.slice a1 t.len q1, .int .i64 1, st (nmOf q)], ?_, ?_⟩
              · exact results_cell_row rfl _ X b2 39 _ (0, 0) _ rfl g3 Tryz.underlying39 rfl (by kernel_rfl)
              · exact ⟨g1, by rw [HR.out, HE.out, if_pos HZ.out]; exact ⟨_, rfl, g2⟩⟩
            | cons c z' =>
              rw [hz] at B11
              have HZ := hid hz
              clear hz
              have c0 : w11.cell? ⟨bp, 0, none⟩ = some (st (c :: z')) := (cell_block B11.out.lp 0).trans rfl
              go_wp2_with (go_at_call 24; (with_reducible refine (fail_any 3 w11).mono ?_); rintro e w12 ⟨rfl, hw⟩; subst w12; unfold thrown)
              exact ⟨rfl, B11.out.gr, by rw [HR.out, HE.out, if_neg (by rw [HZ.out]; simp)]; rfl⟩
end Go.Proofs.YtlaeflpddehipabGreatDoor

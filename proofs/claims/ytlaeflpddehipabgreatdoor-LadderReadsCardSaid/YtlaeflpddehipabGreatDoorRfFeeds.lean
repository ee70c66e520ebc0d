/- The document's feeds: cells as an expression, from the last. -/
import Derived.Test.YtlaeflpddehipabGreatDoorLdAnd
set_option linter.unusedVariables false
set_option linter.unusedSimpArgs false
namespace Go.Proofs.YtlaeflpddehipabGreatDoor
open Go.RowKit
attribute [local go_sem ↓] Go.wp_at_zero Go.wp_at_succ

/-- The last cell. -/
theorem cells_snoc : ∀ t : Tr, t.wf false → t.len ≠ 0 → (∃ (pre : Tr) (no : Bool) (nm : Bs), t = pre.app (.one no nm .nil) ∧ pre.wf false ∧ nm.length ≤ 12 ∧ pre.tot < t.tot ∧ t.len = pre.len + 1) ∨ (∃ (pre ws : Tr), t = pre.app (.many ws .nil) ∧ pre.wf false ∧ (∃ l m, ws = .way l m) ∧ ws.wf true ∧ pre.tot + ws.tot < t.tot ∧ t.len = pre.len + 1)
  | .nil, _, h => absurd rfl h
  | .one no nm n, hw, _ => by
    by_cases hn : n.len = 0
    · obtain rfl : n = .nil := by cases n <;> simp_all [Tr.len]
      exact .inl ⟨.nil, no, nm, rfl, trivial, hw.1, by simp [Tr.tot] <;> omega, rfl⟩
    · rcases cells_snoc n hw.2 hn with ⟨pre, no', nm', e, h1, h2, h3, h4⟩ | ⟨pre, ws, e, h1, h2, h3, h4, h5⟩
      · exact .inl ⟨.one no nm pre, no', nm', by rw [e]; rfl, ⟨hw.1, h1⟩, h2, by simp [Tr.tot] <;> omega, by simp [Tr.len] <;> omega⟩
      · exact .inr ⟨.one no nm pre, ws, by rw [e]; rfl, ⟨hw.1, h1⟩, h2, h3, by simp [Tr.tot] <;> omega, by simp [Tr.len] <;> omega⟩
  | .many ws0 n, hw, _ => by
    by_cases hn : n.len = 0
    · obtain rfl : n = .nil := by cases n <;> simp_all [Tr.len]
      exact .inr ⟨.nil, ws0, rfl, trivial, hw.1, hw.2.1, by simp [Tr.tot] <;> omega, rfl⟩
    · rcases cells_snoc n hw.2.2 hn with ⟨pre, no', nm', e, h1, h2, h3, h4⟩ | ⟨pre, ws, e, h1, h2, h3, h4, h5⟩
      · exact .inl ⟨.many ws0 pre, no', nm', by rw [e]; rfl, ⟨hw.1, hw.2.1, h1⟩, h2, by simp [Tr.tot] <;> omega, by simp [Tr.len] <;> omega⟩
      · exact .inr ⟨.many ws0 pre, ws, by rw [e]; rfl, ⟨hw.1, hw.2.1, h1⟩, h2, h3, by simp [Tr.tot] <;> omega, by simp [Tr.len] <;> omega⟩
  | .way l n, hw, _ => hw.elim
theorem CAt.app {w : World} {u : Tr} : ∀ {t : Tr} {g o : Nat}, t.wf false → CAt w (t.app u) g o → CAt w t g o ∧ CAt w u g (o + t.len * 3)
  | .nil, g, o, _, h => ⟨trivial, by simpa [Tr.app, Tr.len] using h⟩
  | .one no nm n, g, o, hw, ⟨h1, h2, h3, h4⟩ => by
    obtain ⟨h5, h6⟩ := CAt.app hw.2 h4
    exact ⟨⟨h1, h2, h3, h5⟩, by rwa [show o + 3 + n.len * 3 = o + (Tr.one no nm n).len * 3 by simp [Tr.len]; omega] at h6⟩
  | .many ws n, g, o, hw, ⟨h1, h2, h3, h4⟩ => by
    obtain ⟨h5, h6⟩ := CAt.app hw.2.2 h4
    exact ⟨⟨h1, h2, h3, h5⟩, by rwa [show o + 3 + n.len * 3 = o + (Tr.many ws n).len * 3 by simp [Tr.len]; omega] at h6⟩
  | .way l n, g, o, hw, _ => hw.elim
theorem andE_snoc0 {line : Int} {pre last : Tr} {x : Ex} (hx : x.Is) (hl : ∀ acc, foldE line last acc = exJn line acc x) (h0 : pre.len = 0) : andE line (pre.app last) = x := by
  obtain rfl : pre = .nil := by cases pre <;> simp_all [Tr.len]
  rw [andE, foldE_app, hl]
  exact exTop_of hx
theorem andE_snoc1 {line : Int} {pre last : Tr} {x : Ex} (hw : pre.wf false) (hl : ∀ acc, foldE line last acc = exJn line acc x) (h0 : pre.len ≠ 0) : andE line (pre.app last) = exAnd line (andE line pre) x := by
  rw [andE, foldE_app, hl, andE]
  have hi := cells_is line hw h0
  rw [exTop_of hi]
  obtain ⟨k, l, v, t, n, s, o, a, b, e⟩ := hi
  rw [e]
  rfl
theorem exWay_step (line : Int) (x : Ex) (l n : Tr) : foldE line (.way l n) x = foldE line n (exWay line x (andE line l)) := rfl
set_option maxRecDepth 100000 in
set_option maxHeartbeats 3200000 in
theorem feeds_any (line : Int) : ∀ (N : Nat) (t : Tr), t.tot < N → t.tot ≤ 1000000 → t.wf false → ∀ (v : Value) (w : World), SAt w t v → Calls Tryz.prog 33 #[v, .int .i64 line] w (AndPost w.heap.size line t w) := by
  intro N
  induction N with
  | zero => intro t h; omega
  | succ N ih =>
    intro t hN ht hwf v w hv
    have IH := hid ih
    obtain ⟨a, c, rfl, hc, h1⟩ := hv
    clear ih
    have hlt := t.len_tot
    by_cases h0 : t.len = 0
    · have HT0 := hid (show t = .nil by cases t <;> simp_all [Tr.len])
      rw [h0]
      go_enter Tryz.func33, Tryz.ntmps33
      go_wp2_with fail
      go_ret
      rw [HT0.out]
      exact ⟨_, rfl, RepB.new (RepB.none _ _) (RepB.none _ _) (Nat.le_refl _) _ _ _ _ _ _ _, (Below.refl _ _).alloc (Nat.le_refl _) _⟩
    · obtain ⟨g, rfl, hg⟩ := h1.resolve_left h0
      rcases cells_snoc t hwf h0 with ⟨pre, no, nm, e, hp, hnm12, htt, hln⟩ | ⟨pre, ws, e, hp, ⟨l0, m0, hws⟩, hwt, htt, hln⟩
      · subst e
        obtain ⟨HG, x0, x1, x2, _⟩ := CAt.app hp hg
        rw [Nat.zero_add] at x0 x1 x2
        have HG1 := hid HG
        have HP := hid hp
        have HQ := hid (andE_snoc0 (pre := pre) (last := .one no nm .nil) (exOne_is line no nm) (fun _ => rfl))
        have HQ1 := hid (andE_snoc1 (line := line) (last := .one no nm .nil) (x := exOne line no nm) hp (fun _ => rfl))
        have hpN : pre.tot < N := by omega
        have hpM : pre.tot ≤ 1000000 := by omega
        have hB0 := hid (Below.refl w.heap.size w)
        have hpl : pre.len ≤ 1000000 := Nat.le_trans pre.len_tot hpM
        rw [hln] at hc
        rw [hln]
        clear hln htt h1 hN ht hwf h0 hg HG hlt
        obtain ⟨p, hpe⟩ : ∃ p, pre.len = p := ⟨_, rfl⟩
        have HPE := hid hpe
        rw [hpe] at x0 x1 x2 hc hpl
        rw [hpe]
        have hE : ¬ ((p : Int) + 1 = 0) := by omega
        have hEd : ((p : Int) + 1 == 0) = false := by simpa using hE
        have hE2 : ((p : Int) + 1 - 1) = (p : Int) := by omega
        have hp0 : (0 : Int) ≤ (p : Int) := by omega
        have hpp : p < p + 1 := by omega
        clear hp hpe
        cases no with
        | true =>
          go_enter Tryz.func33, Tryz.ntmps33
          go_upto_region 4 with fail
          (try rw [hEd])
          have h2 : Below w.heap.size w (w.alloc (.cells #[st nm, .bool true, .slice none 0 0] 80)) := (Below.refl _ _).alloc (Nat.le_refl _) _
          have hbx : (w.alloc (.cells #[st nm, .bool true, .slice none 0 0] 80)).heap[w.heap.size]? = some (.cells #[st nm, .bool true, .slice none 0 0] 80 (0, 0)) := heap_alloc_new w _
          have HB2 := hid h2
          generalize w.alloc _ = w2 at hbx HB2 ⊢
          have z0 : w2.cell? ⟨w.heap.size, 0, none⟩ = some (st nm) := (cell_block hbx 0).trans rfl
          have z1 : w2.cell? ⟨w.heap.size, 1, none⟩ = some (.bool true) := (cell_block hbx 1).trans rfl
          have z2 : w2.cell? ⟨w.heap.size, 2, none⟩ = some (.slice none 0 0) := (cell_block hbx 2).trans rfl
          have hlx := boxLt hbx
          have HBX2 := hid hbx
          clear h2 hbx x0 x1 x2
          go_upto_region 5 with fail
          generalize hw3 : World.alloc w2 _ = w3
          have HE3 := hid (show RepB w.heap.size w3 (exName line nm) (.pointer (some ⟨w2.heap.size, 0, none⟩)) by rw [← hw3]; exact RepB.new (RepB.none _ _) (RepB.none _ _) HB2.out.size _ _ _ _ _ _ _)
          have hbb3 : Below w2.heap.size w2 w3 := by rw [← hw3]; exact (Below.refl _ _).alloc (Nat.le_refl _) _
          have HBw3 := hid (HB2.out.trans (hbb3.mono HB2.out.size))
          clear hw3
          have HBX3 := hid ((hbb3.block w.heap.size hlx).trans HBX2.out)
          have hlx3 := boxLt HBX3.out
          have HBB3 := hid hbb3
          clear hbb3
          obtain ⟨b3, hbe3⟩ : ∃ b, w2.heap.size = b := ⟨_, rfl⟩
          rw [hbe3] at HE3
          rw [hbe3]
          clear hbe3
          clear z0 z1 z2
          have z1 : w3.cell? ⟨w.heap.size, 1, none⟩ = some (.bool true) := (cell_block HBX3.out 1).trans rfl
          have z2 : w3.cell? ⟨w.heap.size, 2, none⟩ = some (.slice none 0 0) := (cell_block HBX3.out 2).trans rfl
          go_upto_region 7 with fail
          generalize hw4 : World.alloc w3 _ = w4
          have HE4 := hid (show RepB w.heap.size w4 (exNeg line (exName line nm)) (.pointer (some ⟨w3.heap.size, 0, none⟩)) by rw [← hw4]; exact RepB.new (HE3.out) (RepB.none _ _) HBw3.out.size _ _ _ _ _ _ _)
          have hbb4 : Below w3.heap.size w3 w4 := by rw [← hw4]; exact (Below.refl _ _).alloc (Nat.le_refl _) _
          have HBw4 := hid (HBw3.out.trans (hbb4.mono HBw3.out.size))
          clear hw4
          have HBX4 := hid ((hbb4.block w.heap.size hlx3).trans HBX3.out)
          have hlx4 := boxLt HBX4.out
          have HBB4 := hid hbb4
          clear hbb4
          obtain ⟨b4, hbe4⟩ : ∃ b, w3.heap.size = b := ⟨_, rfl⟩
          rw [hbe4] at HE4
          rw [hbe4]
          clear hbe4
          clear z1 z2
          have z2 : w4.cell? ⟨w.heap.size, 2, none⟩ = some (.slice none 0 0) := (cell_block HBX4.out 2).trans rfl
          go_upto_region 8 with fail
          go_loopw [6, 36] (fun o u wx => o = .pointer (some ⟨b4, 0, none⟩) ∧ u = .int .i64 0 ∧ wx = w4) (fun _ _ _ => 0)
          case atStart => exact ⟨rfl, rfl, rfl⟩
          case round =>
            obtain ⟨rfl, rfl, hwx⟩ := hrel
            have hwx2 := hwx.symm
            subst hwx2
            go_upto_region 15 with fail
            by_cases hpz : p = 0
            · have hE3 : ¬ (1 : Int) < (p : Int) + 1 := by omega
              have hE4 : ¬ (0 : Int) < (p : Int) := by omega
              have hE5 : ¬ 0 < p := by omega
              have HR := hid (HQ.out (by rw [HPE.out]; exact hpz))
              go_wp2_with fail
              go_ret
              exact ⟨_, rfl, by rw [HR.out]; exact HE4.out, HBw4.out⟩
            · have hE3 : (1 : Int) < (p : Int) + 1 := by omega
              have hE4 : (0 : Int) < (p : Int) := by omega
              have hE5 : 0 < p := by omega
              have hpc : p ≤ c := by omega
              have HR := hid (HQ1.out (by rw [HPE.out]; exact hpz))
              have HS := hid (show SAt w4 pre (.slice (some ⟨g, 0, none⟩) p c) from ⟨_, c, by rw [HPE.out], by rw [HPE.out]; omega, .inr ⟨g, rfl, HG1.out.keep (w' := w4) (fun a v h => (HBw4.out.cell (p := a) (boxLt4 h)).trans h)⟩⟩)
              go_upto_region 17 with (go_at_call 33; (with_reducible refine (IH.out pre hpN hpM HP.out _ w4 HS.out).mono ?_); rintro e w7 ⟨b7, rfl, h7, hb7⟩; have HB7 := hid (HBw4.out.trans (hb7.mono HBw4.out.size)); have HX7 := hid (HE4.out.below hb7); have H7 := hid (h7.base HBw4.out.size); clear h7 hb7)
              generalize hw8 : World.alloc w7 _ = w8
              have HE8 := hid (show RepB w.heap.size w8 (exAnd line (andE line pre) (exNeg line (exName line nm))) (.pointer (some ⟨w7.heap.size, 0, none⟩)) by rw [← hw8]; exact RepB.new (H7.out) (HX7.out) HB7.out.size _ _ _ _ _ _ _)
              have hbb8 : Below w7.heap.size w7 w8 := by rw [← hw8]; exact (Below.refl _ _).alloc (Nat.le_refl _) _
              have HBw8 := hid (HB7.out.trans (hbb8.mono HB7.out.size))
              clear hw8
              have HBB8 := hid hbb8
              clear hbb8
              obtain ⟨b8, hbe8⟩ : ∃ b, w7.heap.size = b := ⟨_, rfl⟩
              rw [hbe8] at HE8
              rw [hbe8]
              clear hbe8
              go_wp2_with fail
              go_ret
              exact ⟨_, rfl, by rw [HR.out]; exact HE8.out, HBw8.out⟩
        | false =>
          go_enter Tryz.func33, Tryz.ntmps33
          go_upto_region 4 with fail
          (try rw [hEd])
          have h2 : Below w.heap.size w (w.alloc (.cells #[st nm, .bool false, .slice none 0 0] 80)) := (Below.refl _ _).alloc (Nat.le_refl _) _
          have hbx : (w.alloc (.cells #[st nm, .bool false, .slice none 0 0] 80)).heap[w.heap.size]? = some (.cells #[st nm, .bool false, .slice none 0 0] 80 (0, 0)) := heap_alloc_new w _
          have HB2 := hid h2
          generalize w.alloc _ = w2 at hbx HB2 ⊢
          have z0 : w2.cell? ⟨w.heap.size, 0, none⟩ = some (st nm) := (cell_block hbx 0).trans rfl
          have z1 : w2.cell? ⟨w.heap.size, 1, none⟩ = some (.bool false) := (cell_block hbx 1).trans rfl
          have z2 : w2.cell? ⟨w.heap.size, 2, none⟩ = some (.slice none 0 0) := (cell_block hbx 2).trans rfl
          have hlx := boxLt hbx
          have HBX2 := hid hbx
          clear h2 hbx x0 x1 x2
          go_upto_region 5 with fail
          generalize hw3 : World.alloc w2 _ = w3
          have HE3 := hid (show RepB w.heap.size w3 (exName line nm) (.pointer (some ⟨w2.heap.size, 0, none⟩)) by rw [← hw3]; exact RepB.new (RepB.none _ _) (RepB.none _ _) HB2.out.size _ _ _ _ _ _ _)
          have hbb3 : Below w2.heap.size w2 w3 := by rw [← hw3]; exact (Below.refl _ _).alloc (Nat.le_refl _) _
          have HBw3 := hid (HB2.out.trans (hbb3.mono HB2.out.size))
          clear hw3
          have HBX3 := hid ((hbb3.block w.heap.size hlx).trans HBX2.out)
          have hlx3 := boxLt HBX3.out
          have HBB3 := hid hbb3
          clear hbb3
          obtain ⟨b3, hbe3⟩ : ∃ b, w2.heap.size = b := ⟨_, rfl⟩
          rw [hbe3] at HE3
          rw [hbe3]
          clear hbe3
          clear z0 z1 z2
          have z1 : w3.cell? ⟨w.heap.size, 1, none⟩ = some (.bool false) := (cell_block HBX3.out 1).trans rfl
          have z2 : w3.cell? ⟨w.heap.size, 2, none⟩ = some (.slice none 0 0) := (cell_block HBX3.out 2).trans rfl
          go_upto_region 8 with fail
          go_loopw [6, 36] (fun o u wx => o = .pointer (some ⟨b3, 0, none⟩) ∧ u = .int .i64 0 ∧ wx = w3) (fun _ _ _ => 0)
          case atStart => exact ⟨rfl, rfl, rfl⟩
          case round =>
            obtain ⟨rfl, rfl, hwx⟩ := hrel
            have hwx2 := hwx.symm
            subst hwx2
            go_upto_region 15 with fail
            by_cases hpz : p = 0
            · have hE3 : ¬ (1 : Int) < (p : Int) + 1 := by omega
              have hE4 : ¬ (0 : Int) < (p : Int) := by omega
              have hE5 : ¬ 0 < p := by omega
              have HR := hid (HQ.out (by rw [HPE.out]; exact hpz))
              go_wp2_with fail
              go_ret
              exact ⟨_, rfl, by rw [HR.out]; exact HE3.out, HBw3.out⟩
            · have hE3 : (1 : Int) < (p : Int) + 1 := by omega
              have hE4 : (0 : Int) < (p : Int) := by omega
              have hE5 : 0 < p := by omega
              have hpc : p ≤ c := by omega
              have HR := hid (HQ1.out (by rw [HPE.out]; exact hpz))
              have HS := hid (show SAt w3 pre (.slice (some ⟨g, 0, none⟩) p c) from ⟨_, c, by rw [HPE.out], by rw [HPE.out]; omega, .inr ⟨g, rfl, HG1.out.keep (w' := w3) (fun a v h => (HBw3.out.cell (p := a) (boxLt4 h)).trans h)⟩⟩)
              go_upto_region 17 with (go_at_call 33; (with_reducible refine (IH.out pre hpN hpM HP.out _ w3 HS.out).mono ?_); rintro e w7 ⟨b7, rfl, h7, hb7⟩; have HB7 := hid (HBw3.out.trans (hb7.mono HBw3.out.size)); have HX7 := hid (HE3.out.below hb7); have H7 := hid (h7.base HBw3.out.size); clear h7 hb7)
              generalize hw8 : World.alloc w7 _ = w8
              have HE8 := hid (show RepB w.heap.size w8 (exAnd line (andE line pre) (exName line nm)) (.pointer (some ⟨w7.heap.size, 0, none⟩)) by rw [← hw8]; exact RepB.new (H7.out) (HX7.out) HB7.out.size _ _ _ _ _ _ _)
              have hbb8 : Below w7.heap.size w7 w8 := by rw [← hw8]; exact (Below.refl _ _).alloc (Nat.le_refl _) _
              have HBw8 := hid (HB7.out.trans (hbb8.mono HB7.out.size))
              clear hw8
              have HBB8 := hid hbb8
              clear hbb8
              obtain ⟨b8, hbe8⟩ : ∃ b, w7.heap.size = b := ⟨_, rfl⟩
              rw [hbe8] at HE8
              rw [hbe8]
              clear hbe8
              go_wp2_with fail
              go_ret
              exact ⟨_, rfl, by rw [HR.out]; exact HE8.out, HBw8.out⟩
      · subst e
        obtain ⟨HG, x0, x1, ⟨ax, cx, x2, hcx, x4⟩, _⟩ := CAt.app hp hg
        rw [Nat.zero_add] at x0 x1 x2
        have hwl : 0 < ws.len := by rw [hws]; simp [Tr.len]
        have HWL := hid hwl
        obtain ⟨gx, rfl, hgx⟩ := x4.resolve_left (by omega)
        have HGX := hid hgx
        have HWT := hid hwt
        have HWI := hid (ways_is line ⟨l0, m0, hws⟩)
        have HG1 := hid HG
        have HP := hid hp
        have HQ := hid (andE_snoc0 (pre := pre) (last := .many ws .nil) HWI.out (fun _ => rfl))
        have HQ1 := hid (andE_snoc1 (line := line) (last := .many ws .nil) (x := foldE line ws .none) hp (fun _ => rfl))
        have hpN : pre.tot < N := by omega
        have hpM : pre.tot ≤ 1000000 := by omega
        have HWN := hid (show ws.tot < N ∧ ws.tot ≤ 1000000 by omega)
        have hwl3 : ws.len ≤ 1000000 := by have := ws.len_tot; omega
        have hB0 := hid (Below.refl w.heap.size w)
        have hpl : pre.len ≤ 1000000 := Nat.le_trans pre.len_tot hpM
        rw [hln] at hc
        rw [hln]
        clear hln htt h1 hN ht hwf h0 hg HG hlt x4 hgx hwt hws hwl
        obtain ⟨p, hpe⟩ : ∃ p, pre.len = p := ⟨_, rfl⟩
        have HPE := hid hpe
        rw [hpe] at x0 x1 x2 hc hpl
        rw [hpe]
        have hE : ¬ ((p : Int) + 1 = 0) := by omega
        have hEd : ((p : Int) + 1 == 0) = false := by simpa using hE
        have hE2 : ((p : Int) + 1 - 1) = (p : Int) := by omega
        have hp0 : (0 : Int) ≤ (p : Int) := by omega
        have hpp : p < p + 1 := by omega
        clear hp hpe
        go_enter Tryz.func33, Tryz.ntmps33
        go_upto_region 4 with fail
        (try rw [hEd])
        have h2 : Below w.heap.size w (w.alloc (.cells #[st [], .bool false, .slice (some ⟨gx, 0, none⟩) ws.len cx] 80)) := (Below.refl _ _).alloc (Nat.le_refl _) _
        have hbx : (w.alloc (.cells #[st [], .bool false, .slice (some ⟨gx, 0, none⟩) ws.len cx] 80)).heap[w.heap.size]? = some (.cells #[st [], .bool false, .slice (some ⟨gx, 0, none⟩) ws.len cx] 80 (0, 0)) := heap_alloc_new w _
        have HB2 := hid h2
        generalize w.alloc _ = w2 at hbx HB2 ⊢
        have z0 : w2.cell? ⟨w.heap.size, 0, none⟩ = some (st []) := (cell_block hbx 0).trans rfl
        have z1 : w2.cell? ⟨w.heap.size, 1, none⟩ = some (.bool false) := (cell_block hbx 1).trans rfl
        have z2 : w2.cell? ⟨w.heap.size, 2, none⟩ = some (.slice (some ⟨gx, 0, none⟩) ws.len cx) := (cell_block hbx 2).trans rfl
        have hlx := boxLt hbx
        have HBX2 := hid hbx
        clear h2 hbx x0 x1 x2
        go_upto_region 5 with fail
        generalize hw3 : World.alloc w2 _ = w3
        have HE3 := hid (show RepB w.heap.size w3 (exName line []) (.pointer (some ⟨w2.heap.size, 0, none⟩)) by rw [← hw3]; exact RepB.new (RepB.none _ _) (RepB.none _ _) HB2.out.size _ _ _ _ _ _ _)
        have hbb3 : Below w2.heap.size w2 w3 := by rw [← hw3]; exact (Below.refl _ _).alloc (Nat.le_refl _) _
        have HBw3 := hid (HB2.out.trans (hbb3.mono HB2.out.size))
        clear hw3
        have HBX3 := hid ((hbb3.block w.heap.size hlx).trans HBX2.out)
        have hlx3 := boxLt HBX3.out
        have HBB3 := hid hbb3
        clear hbb3
        obtain ⟨b3, hbe3⟩ : ∃ b, w2.heap.size = b := ⟨_, rfl⟩
        rw [hbe3] at HE3
        rw [hbe3]
        clear hbe3
        clear z0 z1 z2 HE3
        have z1 : w3.cell? ⟨w.heap.size, 1, none⟩ = some (.bool false) := (cell_block HBX3.out 1).trans rfl
        have z2 : w3.cell? ⟨w.heap.size, 2, none⟩ = some (.slice (some ⟨gx, 0, none⟩) ws.len cx) := (cell_block HBX3.out 2).trans rfl
        have HGX3 := hid (HGX.out.keep (w' := w3) (fun a v h => (HBw3.out.cell (p := a) (boxLt4 h)).trans h))
        go_upto_region 8 with fail
        clear z1 z2
        go_loopw [6, 36] (fun o u wx => ∃ (k2 : Nat) (tw : Tr) (x : Ex), u = .int .i64 k2 ∧ Below w3.heap.size w3 wx ∧ tw.wf true ∧ CAt w3 tw gx k2 ∧ k2 + tw.len = ws.len ∧ tw.tot ≤ ws.tot ∧ ((k2 = 0 ∧ x = .none) ∨ (0 < k2 ∧ x.Is ∧ RepB w.heap.size wx x o)) ∧ foldE line tw x = foldE line ws .none) (fun _ u _ => ws.len - (intOf u).toNat)
        case atStart => exact ⟨0, ws, .none, rfl, Below.refl _ _, HWT.out, HGX3.out, Nat.zero_add _, Nat.le_refl _, .inl ⟨rfl, rfl⟩, rfl⟩
        case round =>
          rename World => wi
          obtain ⟨k2, tw, x, rfl, jb, jw, jc, jk, jt, jx, jf⟩ := hrel
          have JB := hid jb
          have JF := hid jf
          have JX := hid jx
          have jcr := jc.keep (w' := wi) (fun a v h => (jb.cell (p := a) (boxLt4 h)).trans h)
          clear jb jf jx
          cases tw with
          | nil =>
            have hkI2 : ¬ (k2 : Int) < (ws.len : Int) := by simp [Tr.len] at jk; omega
            have HXE := hid (show x = foldE line ws .none by rw [← JF.out]; rfl)
            have hk2 : 0 < k2 := by have := HWL.out; simp [Tr.len] at jk; omega
            have jx := JX.out.resolve_left (fun h => by omega)
            obtain ⟨b8, hb8⟩ := jx.2.2.ptr jx.2.1
            subst hb8
            have HBi := hid (HBw3.out.trans (JB.out.mono HBw3.out.size))
            have HEi := hid (show RepB w.heap.size wi (foldE line ws .none) (.pointer (some ⟨b8, 0, none⟩)) by rw [← HXE.out]; exact jx.2.2)
            clear jk jt jw jc jx
            go_upto_region 15 with fail
            by_cases hpz : p = 0
            · have hE3 : ¬ (1 : Int) < (p : Int) + 1 := by omega
              have hE4 : ¬ (0 : Int) < (p : Int) := by omega
              have hE5 : ¬ 0 < p := by omega
              have HR := hid (HQ.out (by rw [HPE.out]; exact hpz))
              go_wp2_with fail
              go_ret
              exact ⟨_, rfl, by rw [HR.out]; exact HEi.out, HBi.out⟩
            · have hE3 : (1 : Int) < (p : Int) + 1 := by omega
              have hE4 : (0 : Int) < (p : Int) := by omega
              have hE5 : 0 < p := by omega
              have hpc : p ≤ c := by omega
              have HR := hid (HQ1.out (by rw [HPE.out]; exact hpz))
              have HS := hid (show SAt wi pre (.slice (some ⟨g, 0, none⟩) p c) from ⟨_, c, by rw [HPE.out], by rw [HPE.out]; omega, .inr ⟨g, rfl, HG1.out.keep (w' := wi) (fun a v h => (HBi.out.cell (p := a) (boxLt4 h)).trans h)⟩⟩)
              go_upto_region 17 with (go_at_call 33; (with_reducible refine (IH.out pre hpN hpM HP.out _ wi HS.out).mono ?_); rintro e w7 ⟨b7, rfl, h7, hb7⟩; have HB7 := hid (HBi.out.trans (hb7.mono HBi.out.size)); have HX7 := hid (HEi.out.below hb7); have H7 := hid (h7.base HBi.out.size); clear h7 hb7)
              generalize hw8 : World.alloc w7 _ = w8
              have HE8 := hid (show RepB w.heap.size w8 (exAnd line (andE line pre) (foldE line ws .none)) (.pointer (some ⟨w7.heap.size, 0, none⟩)) by rw [← hw8]; exact RepB.new (H7.out) (HX7.out) HB7.out.size _ _ _ _ _ _ _)
              have hbb8 : Below w7.heap.size w7 w8 := by rw [← hw8]; exact (Below.refl _ _).alloc (Nat.le_refl _) _
              have HBw8 := hid (HB7.out.trans (hbb8.mono HB7.out.size))
              clear hw8
              have HBB8 := hid hbb8
              clear hbb8
              obtain ⟨b8, hbe8⟩ : ∃ b, w7.heap.size = b := ⟨_, rfl⟩
              rw [hbe8] at HE8
              rw [hbe8]
              clear hbe8
              go_wp2_with fail
              go_ret
              exact ⟨_, rfl, by rw [HR.out]; exact HE8.out, HBw8.out⟩
          | one no nm n2 => exact jw.elim
          | many ws2 n2 => exact jw.elim
          | way l n2 =>
            obtain ⟨⟨al2, cl2, p0, hcl2, p1⟩, p3⟩ := jcr
            obtain ⟨hwl2, hwn2⟩ := jw
            have HL := hid (show SAt wi l (.slice al2 l.len cl2) from ⟨al2, cl2, rfl, hcl2, p1⟩)
            have P3 := hid jc.2
            have HWL2 := hid hwl2
            have HWM2 := hid hwn2
            have hkI2 : (k2 : Int) < (ws.len : Int) := by simp [Tr.len] at jk; omega
            have hk20 : (0 : Int) ≤ (k2 : Int) := by omega
            have hkl2 : k2 < ws.len := by simp [Tr.len] at jk; omega
            have HKN2 := hid (show k2 + 1 + n2.len = ws.len by simp [Tr.len] at jk; omega)
            have htn2 : 1 + l.tot + n2.tot ≤ ws.tot := jt
            have HTN2 := hid (show n2.tot ≤ ws.tot by omega)
            have HM1 := HWN.out
            have hl1 : l.tot < N := by omega
            have hl2 : l.tot ≤ 1000000 := by omega
            clear p1 p3 hwl2 hwn2 jk jt htn2 jc HM1
            go_upto_region 11 with (go_at_call 33; (with_reducible refine (IH.out l hl1 hl2 HWL2.out _ wi HL.out).mono ?_); rintro e w5 ⟨b5, rfl, h5, hb5⟩; have HB5 := hid (JB.out.trans (hb5.mono JB.out.size)); have HBI := hid ((HBw3.out.trans (JB.out.mono HBw3.out.size)).size); have H5 := hid (h5.base HBI.out); have HBW5 := hid (HBw3.out.trans (HB5.out.mono HBw3.out.size)); have HBC := hid hb5; clear h5 hb5)
            rcases JX.out with ⟨h20, hxn⟩ | ⟨h20, hxi, hxr⟩
            · have h2z : ¬ (0 : Int) < (k2 : Int) := by omega
              have HF := hid (show foldE line n2 (andE line l) = foldE line ws .none by rw [← JF.out, hxn]; rfl)
              clear h20
              go_wp2_with fail
              go_roundw
              case rel => exact ⟨k2 + 1, n2, andE line l, by go_num, HB5.out, HWM2.out, P3.out, HKN2.out, HTN2.out, .inr ⟨Nat.succ_pos _, exTop_is _ _, H5.out⟩, HF.out⟩
              case measure => simp [intOf]; omega
            · have h2z : (0 : Int) < (k2 : Int) := by omega
              obtain ⟨b8, hb8⟩ := hxr.ptr hxi
              subst hb8
              have HX5 := hid (hxr.below HBC.out)
              have HF := hid (show foldE line n2 (exOr line x (andE line l)) = foldE line ws .none by rw [← JF.out]; obtain ⟨_, _, _, _, _, _, _, _, _, rfl⟩ := hxi; rfl)
              clear hxr hxi h20
              go_upto_region 13 with fail
              generalize hw6 : World.alloc w5 _ = w6
              have HE6 := hid (show RepB w.heap.size w6 (exOr line x (andE line l)) (.pointer (some ⟨w5.heap.size, 0, none⟩)) by rw [← hw6]; exact RepB.new (HX5.out) (H5.out) HBW5.out.size _ _ _ _ _ _ _)
              have hbb6 : Below w5.heap.size w5 w6 := by rw [← hw6]; exact (Below.refl _ _).alloc (Nat.le_refl _) _
              have HBw6 := hid (HBW5.out.trans (hbb6.mono HBW5.out.size))
              clear hw6
              have HBB6 := hid hbb6
              clear hbb6
              obtain ⟨b6, hbe6⟩ : ∃ b, w5.heap.size = b := ⟨_, rfl⟩
              rw [hbe6] at HE6
              rw [hbe6]
              clear hbe6
              have HB6 := hid (show Below w3.heap.size w3 w6 from HB5.out.trans (HBB6.out.mono HB5.out.size))
              go_wp2_with fail
              go_roundw
              case rel => exact ⟨k2 + 1, n2, exOr line x (andE line l), by go_num, HB6.out, HWM2.out, P3.out, HKN2.out, HTN2.out, .inr ⟨Nat.succ_pos _, exOr_is _ _ _, HE6.out⟩, HF.out⟩
              case measure => simp [intOf]; omega
end Go.Proofs.YtlaeflpddehipabGreatDoor

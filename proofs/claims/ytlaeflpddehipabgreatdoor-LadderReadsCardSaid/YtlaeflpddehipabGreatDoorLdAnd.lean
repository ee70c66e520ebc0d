/- ladder.and: cells as an expression. -/
import Derived.Test.YtlaeflpddehipabGreatDoorEx
set_option linter.unusedVariables false
set_option linter.unusedSimpArgs false
namespace Go.Proofs.YtlaeflpddehipabGreatDoor
open Go.RowKit
attribute [local go_sem ↓] Go.wp_at_zero Go.wp_at_succ

def AndPost (B : Nat) (line : Int) (t : Tr) (w : World) (e : Ending) (w' : World) : Prop := ∃ b, e = .returned (.pointer (some ⟨b, 0, none⟩)) ∧ RepB B w' (andE line t) (.pointer (some ⟨b, 0, none⟩)) ∧ Below B w w'
set_option maxRecDepth 100000 in
set_option maxHeartbeats 3200000 in
theorem and_any (line : Int) : ∀ (N : Nat) (t : Tr), t.tot < N → t.tot ≤ 1000000 → t.wf false → ∀ (v : Value) (w : World), SAt w t v → Calls Tryz.prog 32 #[v, .int .i64 line] w (AndPost w.heap.size line t w) := by
  intro N
  induction N with
  | zero => intro t h; omega
  | succ N ih =>
    intro t hN ht hwf v w hv
    have IH := hid ih
    obtain ⟨a, c, rfl, hc, h1⟩ := hv
    clear ih
    have hlt := t.len_tot
    go_enter Tryz.func32, Tryz.ntmps32
    go_upto_region 3 with fail
    rcases h1 with h0 | ⟨g, rfl, hg⟩
    · have h0I : ¬ (0 : Int) < (t.len : Int) := by omega
      have HT0 := hid (show t = .nil by cases t <;> simp_all [Tr.len])
      go_loopw [5, 13] (fun o u wr => o = .pointer none ∧ u = .int .i64 0 ∧ wr = w) (fun _ _ _ => 0)
      case atStart => exact ⟨rfl, rfl, rfl⟩
      case round =>
        obtain ⟨rfl, rfl, hwr⟩ := hrel
        subst wr
        go_wp2_with fail
        go_ret
        rw [HT0.out]
        exact ⟨_, rfl, RepB.new (RepB.none _ _) (RepB.none _ _) (Nat.le_refl _) _ _ _ _ _ _ _, (Below.refl _ _).alloc (Nat.le_refl _) _⟩
    · go_loopw [5, 13] (fun o u wr => ∃ (k : Nat) (tr : Tr) (acc : Ex), u = .int .i64 k ∧ Below w.heap.size w wr ∧ tr.wf false ∧ CAt w tr g (k * 3) ∧ k + tr.len = t.len ∧ tr.tot ≤ t.tot ∧ RepB w.heap.size wr acc o ∧ foldE line tr acc = foldE line t .none) (fun _ u _ => t.len - (intOf u).toNat)
      case atStart => exact ⟨0, t, .none, rfl, Below.refl _ _, hwf, hg, Nat.zero_add _, Nat.le_refl _, RepB.none _ _, rfl⟩
      case round =>
        obtain ⟨k, tr, acc, rfl, hb, hw1, hc1, hk, htt, hacc, hfe⟩ := hrel
        have HB := hid hb
        have HFE := hid hfe
        have HACC := hid hacc
        have hcr := hc1.keep (w' := wr) (fun a v h => (hb.cell (p := a) (boxLt4 h)).trans h)
        clear hb hfe
        cases tr with
        | nil =>
          have hkI : ¬ (k : Int) < (t.len : Int) := by simp [Tr.len] at hk; omega
          have HAC := hid (show andE line t = exTop line acc by rw [andE, ← HFE.out]; rfl)
          clear hk htt
          cases acc with
          | none =>
            have hvo : u5 = .pointer none := hacc
            subst hvo
            clear hacc
            go_wp2_with fail
            go_ret
            exact ⟨_, rfl, by rw [HAC.out]; exact RepB.new (RepB.none _ _) (RepB.none _ _) HB.out.size _ _ _ _ _ _ _, HB.out.alloc HB.out.size _⟩
          | node ek el ev et en es eo ea eb =>
            obtain ⟨b0, vl0, vr0, hvo, _⟩ := hacc
            subst hvo
            go_wp2_with fail
            go_ret
            exact ⟨_, rfl, by rw [HAC.out]; exact HACC.out, HB.out⟩
        | one no nm n =>
          obtain ⟨x0, x1, x2, x3⟩ := hcr
          have HX := hid hc1.2.2.2
          have HW := hid hw1.2
          have hnm12 : nm.length ≤ 12 := hw1.1
          have hkI : (k : Int) < (t.len : Int) := by simp [Tr.len] at hk; omega
          have hk0 : (0 : Int) ≤ (k : Int) := by omega
          have hkl : k < t.len := by simp [Tr.len] at hk; omega
          have HKN := hid (show k + 1 + n.len = t.len by simp [Tr.len] at hk; omega)
          have HTN := hid (show n.tot ≤ t.tot by simp [Tr.tot] at htt; omega)
          clear x3 hw1 hc1 hk htt
          cases no with
          | true =>
            cases acc with
            | none =>
              go_upto_region 5 with fail
              have h2 : Below wr.heap.size wr (wr.alloc (.cells #[st nm, .bool true, .slice none 0 0] 77)) := (Below.refl _ _).alloc (Nat.le_refl _) _
              have hbx : (wr.alloc (.cells #[st nm, .bool true, .slice none 0 0] 77)).heap[wr.heap.size]? = some (.cells #[st nm, .bool true, .slice none 0 0] 77 (0, 0)) := heap_alloc_new wr _
              obtain ⟨bx, hbxe⟩ : ∃ bx, wr.heap.size = bx := ⟨_, rfl⟩
              have HB2 := hid (HB.out.trans (h2.mono HB.out.size))
              have HAC2 := hid (HACC.out.below h2)
              have HWR := hid h2
              rw [hbxe] at hbx
              rw [hbxe]
              generalize wr.alloc _ = w2 at hbx HB2 HAC2 HWR ⊢
              have z0 : w2.cell? ⟨bx, 0, none⟩ = some (st nm) := (cell_block hbx 0).trans rfl
              have z1 : w2.cell? ⟨bx, 1, none⟩ = some (.bool true) := (cell_block hbx 1).trans rfl
              have z2 : w2.cell? ⟨bx, 2, none⟩ = some (.slice none 0 0) := (cell_block hbx 2).trans rfl
              have hlx := boxLt hbx
              have HBX2 := hid hbx
              clear h2 hbx hbxe x0 x1 x2
              go_upto_region 6 with fail
              generalize hw3 : World.alloc w2 _ = w3
              have HE3 := hid (show RepB w.heap.size w3 (exName line nm) (.pointer (some ⟨w2.heap.size, 0, none⟩)) by rw [← hw3]; exact RepB.new (RepB.none _ _) (RepB.none _ _) HB2.out.size _ _ _ _ _ _ _)
              have hbb3 : Below w2.heap.size w2 w3 := by rw [← hw3]; exact (Below.refl _ _).alloc (Nat.le_refl _) _
              have HBw3 := hid (HB2.out.trans (hbb3.mono HB2.out.size))
              clear hw3
              have HAC3 := hid (HAC2.out.below hbb3)
              have HBX3 := hid ((hbb3.block bx hlx).trans HBX2.out)
              have hlx3 := boxLt HBX3.out
              clear hbb3
              obtain ⟨b3, hbe3⟩ : ∃ b, w2.heap.size = b := ⟨_, rfl⟩
              rw [hbe3] at HE3
              rw [hbe3]
              clear hbe3
              clear z0 z1 z2
              have z1 : w3.cell? ⟨bx, 1, none⟩ = some (.bool true) := (cell_block HBX3.out 1).trans rfl
              have z2 : w3.cell? ⟨bx, 2, none⟩ = some (.slice none 0 0) := (cell_block HBX3.out 2).trans rfl
              go_upto_region 15 with fail
              generalize hw4 : World.alloc w3 _ = w4
              have HE4 := hid (show RepB w.heap.size w4 (exNeg line (exName line nm)) (.pointer (some ⟨w3.heap.size, 0, none⟩)) by rw [← hw4]; exact RepB.new (HE3.out) (RepB.none _ _) HBw3.out.size _ _ _ _ _ _ _)
              have hbb4 : Below w3.heap.size w3 w4 := by rw [← hw4]; exact (Below.refl _ _).alloc (Nat.le_refl _) _
              have HBw4 := hid (HBw3.out.trans (hbb4.mono HBw3.out.size))
              clear hw4
              have HAC4 := hid (HAC3.out.below hbb4)
              clear hbb4
              obtain ⟨b4, hbe4⟩ : ∃ b, w3.heap.size = b := ⟨_, rfl⟩
              rw [hbe4] at HE4
              rw [hbe4]
              clear hbe4
              have hvo : u5 = .pointer none := hacc
              subst hvo
              clear hacc
              go_wp2_with fail
              go_roundw
              case rel => exact ⟨k + 1, n, exNeg line (exName line nm), by go_num, HBw4.out, HW.out, by rw [Nat.succ_mul]; exact HX.out, HKN.out, HTN.out, HE4.out, HFE.out⟩
              case measure => simp [intOf]; omega
            | node ek el ev et en es eo ea eb =>
              go_upto_region 5 with fail
              have h2 : Below wr.heap.size wr (wr.alloc (.cells #[st nm, .bool true, .slice none 0 0] 77)) := (Below.refl _ _).alloc (Nat.le_refl _) _
              have hbx : (wr.alloc (.cells #[st nm, .bool true, .slice none 0 0] 77)).heap[wr.heap.size]? = some (.cells #[st nm, .bool true, .slice none 0 0] 77 (0, 0)) := heap_alloc_new wr _
              obtain ⟨bx, hbxe⟩ : ∃ bx, wr.heap.size = bx := ⟨_, rfl⟩
              have HB2 := hid (HB.out.trans (h2.mono HB.out.size))
              have HAC2 := hid (HACC.out.below h2)
              have HWR := hid h2
              rw [hbxe] at hbx
              rw [hbxe]
              generalize wr.alloc _ = w2 at hbx HB2 HAC2 HWR ⊢
              have z0 : w2.cell? ⟨bx, 0, none⟩ = some (st nm) := (cell_block hbx 0).trans rfl
              have z1 : w2.cell? ⟨bx, 1, none⟩ = some (.bool true) := (cell_block hbx 1).trans rfl
              have z2 : w2.cell? ⟨bx, 2, none⟩ = some (.slice none 0 0) := (cell_block hbx 2).trans rfl
              have hlx := boxLt hbx
              have HBX2 := hid hbx
              clear h2 hbx hbxe x0 x1 x2
              go_upto_region 6 with fail
              generalize hw3 : World.alloc w2 _ = w3
              have HE3 := hid (show RepB w.heap.size w3 (exName line nm) (.pointer (some ⟨w2.heap.size, 0, none⟩)) by rw [← hw3]; exact RepB.new (RepB.none _ _) (RepB.none _ _) HB2.out.size _ _ _ _ _ _ _)
              have hbb3 : Below w2.heap.size w2 w3 := by rw [← hw3]; exact (Below.refl _ _).alloc (Nat.le_refl _) _
              have HBw3 := hid (HB2.out.trans (hbb3.mono HB2.out.size))
              clear hw3
              have HAC3 := hid (HAC2.out.below hbb3)
              have HBX3 := hid ((hbb3.block bx hlx).trans HBX2.out)
              have hlx3 := boxLt HBX3.out
              clear hbb3
              obtain ⟨b3, hbe3⟩ : ∃ b, w2.heap.size = b := ⟨_, rfl⟩
              rw [hbe3] at HE3
              rw [hbe3]
              clear hbe3
              clear z0 z1 z2
              have z1 : w3.cell? ⟨bx, 1, none⟩ = some (.bool true) := (cell_block HBX3.out 1).trans rfl
              have z2 : w3.cell? ⟨bx, 2, none⟩ = some (.slice none 0 0) := (cell_block HBX3.out 2).trans rfl
              go_upto_region 15 with fail
              generalize hw4 : World.alloc w3 _ = w4
              have HE4 := hid (show RepB w.heap.size w4 (exNeg line (exName line nm)) (.pointer (some ⟨w3.heap.size, 0, none⟩)) by rw [← hw4]; exact RepB.new (HE3.out) (RepB.none _ _) HBw3.out.size _ _ _ _ _ _ _)
              have hbb4 : Below w3.heap.size w3 w4 := by rw [← hw4]; exact (Below.refl _ _).alloc (Nat.le_refl _) _
              have HBw4 := hid (HBw3.out.trans (hbb4.mono HBw3.out.size))
              clear hw4
              have HAC4 := hid (HAC3.out.below hbb4)
              clear hbb4
              obtain ⟨b4, hbe4⟩ : ∃ b, w3.heap.size = b := ⟨_, rfl⟩
              rw [hbe4] at HE4
              rw [hbe4]
              clear hbe4
              obtain ⟨b0, vl0, vr0, hvo, _⟩ := hacc
              subst hvo
              go_upto_region 17 with fail
              generalize hw9 : World.alloc w4 _ = w9
              have HE9 := hid (show RepB w.heap.size w9 (exAnd line (.node ek el ev et en es eo ea eb) (exNeg line (exName line nm))) (.pointer (some ⟨w4.heap.size, 0, none⟩)) by rw [← hw9]; exact RepB.new (HAC4.out) (HE4.out) HBw4.out.size _ _ _ _ _ _ _)
              have hbb9 : Below w4.heap.size w4 w9 := by rw [← hw9]; exact (Below.refl _ _).alloc (Nat.le_refl _) _
              have HBw9 := hid (HBw4.out.trans (hbb9.mono HBw4.out.size))
              clear hw9
              clear hbb9
              obtain ⟨b9, hbe9⟩ : ∃ b, w4.heap.size = b := ⟨_, rfl⟩
              rw [hbe9] at HE9
              rw [hbe9]
              clear hbe9
              go_wp2_with fail
              go_roundw
              case rel => exact ⟨k + 1, n, exAnd line (.node ek el ev et en es eo ea eb) (exNeg line (exName line nm)), by go_num, HBw9.out, HW.out, by rw [Nat.succ_mul]; exact HX.out, HKN.out, HTN.out, HE9.out, HFE.out⟩
              case measure => simp [intOf]; omega
          | false =>
            cases acc with
            | none =>
              go_upto_region 5 with fail
              have h2 : Below wr.heap.size wr (wr.alloc (.cells #[st nm, .bool false, .slice none 0 0] 77)) := (Below.refl _ _).alloc (Nat.le_refl _) _
              have hbx : (wr.alloc (.cells #[st nm, .bool false, .slice none 0 0] 77)).heap[wr.heap.size]? = some (.cells #[st nm, .bool false, .slice none 0 0] 77 (0, 0)) := heap_alloc_new wr _
              obtain ⟨bx, hbxe⟩ : ∃ bx, wr.heap.size = bx := ⟨_, rfl⟩
              have HB2 := hid (HB.out.trans (h2.mono HB.out.size))
              have HAC2 := hid (HACC.out.below h2)
              have HWR := hid h2
              rw [hbxe] at hbx
              rw [hbxe]
              generalize wr.alloc _ = w2 at hbx HB2 HAC2 HWR ⊢
              have z0 : w2.cell? ⟨bx, 0, none⟩ = some (st nm) := (cell_block hbx 0).trans rfl
              have z1 : w2.cell? ⟨bx, 1, none⟩ = some (.bool false) := (cell_block hbx 1).trans rfl
              have z2 : w2.cell? ⟨bx, 2, none⟩ = some (.slice none 0 0) := (cell_block hbx 2).trans rfl
              have hlx := boxLt hbx
              have HBX2 := hid hbx
              clear h2 hbx hbxe x0 x1 x2
              go_upto_region 6 with fail
              generalize hw3 : World.alloc w2 _ = w3
              have HE3 := hid (show RepB w.heap.size w3 (exName line nm) (.pointer (some ⟨w2.heap.size, 0, none⟩)) by rw [← hw3]; exact RepB.new (RepB.none _ _) (RepB.none _ _) HB2.out.size _ _ _ _ _ _ _)
              have hbb3 : Below w2.heap.size w2 w3 := by rw [← hw3]; exact (Below.refl _ _).alloc (Nat.le_refl _) _
              have HBw3 := hid (HB2.out.trans (hbb3.mono HB2.out.size))
              clear hw3
              have HAC3 := hid (HAC2.out.below hbb3)
              have HBX3 := hid ((hbb3.block bx hlx).trans HBX2.out)
              have hlx3 := boxLt HBX3.out
              clear hbb3
              obtain ⟨b3, hbe3⟩ : ∃ b, w2.heap.size = b := ⟨_, rfl⟩
              rw [hbe3] at HE3
              rw [hbe3]
              clear hbe3
              clear z0 z1 z2
              have z1 : w3.cell? ⟨bx, 1, none⟩ = some (.bool false) := (cell_block HBX3.out 1).trans rfl
              have z2 : w3.cell? ⟨bx, 2, none⟩ = some (.slice none 0 0) := (cell_block HBX3.out 2).trans rfl
              go_upto_region 15 with fail
              have hvo : u5 = .pointer none := hacc
              subst hvo
              clear hacc
              go_wp2_with fail
              go_roundw
              case rel => exact ⟨k + 1, n, exName line nm, by go_num, HBw3.out, HW.out, by rw [Nat.succ_mul]; exact HX.out, HKN.out, HTN.out, HE3.out, HFE.out⟩
              case measure => simp [intOf]; omega
            | node ek el ev et en es eo ea eb =>
              go_upto_region 5 with fail
              have h2 : Below wr.heap.size wr (wr.alloc (.cells #[st nm, .bool false, .slice none 0 0] 77)) := (Below.refl _ _).alloc (Nat.le_refl _) _
              have hbx : (wr.alloc (.cells #[st nm, .bool false, .slice none 0 0] 77)).heap[wr.heap.size]? = some (.cells #[st nm, .bool false, .slice none 0 0] 77 (0, 0)) := heap_alloc_new wr _
              obtain ⟨bx, hbxe⟩ : ∃ bx, wr.heap.size = bx := ⟨_, rfl⟩
              have HB2 := hid (HB.out.trans (h2.mono HB.out.size))
              have HAC2 := hid (HACC.out.below h2)
              have HWR := hid h2
              rw [hbxe] at hbx
              rw [hbxe]
              generalize wr.alloc _ = w2 at hbx HB2 HAC2 HWR ⊢
              have z0 : w2.cell? ⟨bx, 0, none⟩ = some (st nm) := (cell_block hbx 0).trans rfl
              have z1 : w2.cell? ⟨bx, 1, none⟩ = some (.bool false) := (cell_block hbx 1).trans rfl
              have z2 : w2.cell? ⟨bx, 2, none⟩ = some (.slice none 0 0) := (cell_block hbx 2).trans rfl
              have hlx := boxLt hbx
              have HBX2 := hid hbx
              clear h2 hbx hbxe x0 x1 x2
              go_upto_region 6 with fail
              generalize hw3 : World.alloc w2 _ = w3
              have HE3 := hid (show RepB w.heap.size w3 (exName line nm) (.pointer (some ⟨w2.heap.size, 0, none⟩)) by rw [← hw3]; exact RepB.new (RepB.none _ _) (RepB.none _ _) HB2.out.size _ _ _ _ _ _ _)
              have hbb3 : Below w2.heap.size w2 w3 := by rw [← hw3]; exact (Below.refl _ _).alloc (Nat.le_refl _) _
              have HBw3 := hid (HB2.out.trans (hbb3.mono HB2.out.size))
              clear hw3
              have HAC3 := hid (HAC2.out.below hbb3)
              have HBX3 := hid ((hbb3.block bx hlx).trans HBX2.out)
              have hlx3 := boxLt HBX3.out
              clear hbb3
              obtain ⟨b3, hbe3⟩ : ∃ b, w2.heap.size = b := ⟨_, rfl⟩
              rw [hbe3] at HE3
              rw [hbe3]
              clear hbe3
              clear z0 z1 z2
              have z1 : w3.cell? ⟨bx, 1, none⟩ = some (.bool false) := (cell_block HBX3.out 1).trans rfl
              have z2 : w3.cell? ⟨bx, 2, none⟩ = some (.slice none 0 0) := (cell_block HBX3.out 2).trans rfl
              go_upto_region 15 with fail
              obtain ⟨b0, vl0, vr0, hvo, _⟩ := hacc
              subst hvo
              go_upto_region 17 with fail
              generalize hw9 : World.alloc w3 _ = w9
              have HE9 := hid (show RepB w.heap.size w9 (exAnd line (.node ek el ev et en es eo ea eb) (exName line nm)) (.pointer (some ⟨w3.heap.size, 0, none⟩)) by rw [← hw9]; exact RepB.new (HAC3.out) (HE3.out) HBw3.out.size _ _ _ _ _ _ _)
              have hbb9 : Below w3.heap.size w3 w9 := by rw [← hw9]; exact (Below.refl _ _).alloc (Nat.le_refl _) _
              have HBw9 := hid (HBw3.out.trans (hbb9.mono HBw3.out.size))
              clear hw9
              clear hbb9
              obtain ⟨b9, hbe9⟩ : ∃ b, w3.heap.size = b := ⟨_, rfl⟩
              rw [hbe9] at HE9
              rw [hbe9]
              clear hbe9
              go_wp2_with fail
              go_roundw
              case rel => exact ⟨k + 1, n, exAnd line (.node ek el ev et en es eo ea eb) (exName line nm), by go_num, HBw9.out, HW.out, by rw [Nat.succ_mul]; exact HX.out, HKN.out, HTN.out, HE9.out, HFE.out⟩
              case measure => simp [intOf]; omega
        | many ws n =>
          obtain ⟨x0, x1, ⟨ax, cx, x2, hcx, x4⟩, x3⟩ := hcr
          obtain ⟨⟨l0, m0, hws⟩, hwt, hwn⟩ := hw1
          have HX := hid hc1.2.2.2
          have hwl : ws.len = m0.len + 1 := by rw [hws]; rfl
          obtain ⟨gx, rfl, hgx⟩ := x4.resolve_left (by omega)
          have HW := hid hwn
          have HWI := hid (ways_is line ⟨l0, m0, hws⟩)
          have hkI : (k : Int) < (t.len : Int) := by simp [Tr.len] at hk; omega
          have hk0 : (0 : Int) ≤ (k : Int) := by omega
          have hkl : k < t.len := by simp [Tr.len] at hk; omega
          have HKN := hid (show k + 1 + n.len = t.len by simp [Tr.len] at hk; omega)
          have htn : 1 + ws.tot + n.tot ≤ t.tot := htt
          have HTN := hid (show n.tot ≤ t.tot by omega)
          have hwt0 : ws.tot = 1 + l0.tot + m0.tot := by rw [hws]; rfl
          have htw : l0.tot < N := by omega
          have hwl1 : l0.tot ≤ 1000000 := by omega
          have HM0 := hid (show m0.tot < N ∧ m0.tot ≤ 1000000 by omega)
          have hwl3 : ws.len ≤ 1000000 := by have := ws.len_tot; omega
          have hwlI : (0 : Int) < (ws.len : Int) := by omega
          have hwlI1 : (1 : Int) ≤ (ws.len : Int) := by omega
          have hwlN1 : 1 ≤ ws.len := by omega
          have hwlN0 : 0 < ws.len := by omega
          have HFW := hid (show foldE line ws .none = foldE line m0 (andE line l0) by rw [hws]; rfl)
          rw [hws] at hwt hgx
          obtain ⟨⟨al, cl, y0, hcl, y1⟩, y3⟩ := hgx
          have HL0 := hid (show SAt wr l0 (.slice al l0.len cl) from ⟨al, cl, rfl, hcl, y1⟩)
          have Y3 := hid y3
          have HWL := hid hwt.1
          have HWM := hid hwt.2
          have HWLE := hid hwl
          clear x3 hwn hwt x4 hc1 hk htt htn y1 y3 hws hwl hwt0
          cases acc with
          | none =>
            go_upto_region 5 with fail
            have h2 : Below wr.heap.size wr (wr.alloc (.cells #[st [], .bool false, .slice (some ⟨gx, 0, none⟩) ws.len cx] 77)) := (Below.refl _ _).alloc (Nat.le_refl _) _
            have hbx : (wr.alloc (.cells #[st [], .bool false, .slice (some ⟨gx, 0, none⟩) ws.len cx] 77)).heap[wr.heap.size]? = some (.cells #[st [], .bool false, .slice (some ⟨gx, 0, none⟩) ws.len cx] 77 (0, 0)) := heap_alloc_new wr _
            obtain ⟨bx, hbxe⟩ : ∃ bx, wr.heap.size = bx := ⟨_, rfl⟩
            have HB2 := hid (HB.out.trans (h2.mono HB.out.size))
            have HAC2 := hid (HACC.out.below h2)
            have HWR := hid h2
            rw [hbxe] at hbx
            rw [hbxe]
            generalize wr.alloc _ = w2 at hbx HB2 HAC2 HWR ⊢
            have z0 : w2.cell? ⟨bx, 0, none⟩ = some (st []) := (cell_block hbx 0).trans rfl
            have z1 : w2.cell? ⟨bx, 1, none⟩ = some (.bool false) := (cell_block hbx 1).trans rfl
            have z2 : w2.cell? ⟨bx, 2, none⟩ = some (.slice (some ⟨gx, 0, none⟩) ws.len cx) := (cell_block hbx 2).trans rfl
            have hlx := boxLt hbx
            have HBX2 := hid hbx
            clear h2 hbx hbxe x0 x1 x2
            go_upto_region 6 with fail
            generalize hw3 : World.alloc w2 _ = w3
            have HE3 := hid (show RepB w.heap.size w3 (exName line []) (.pointer (some ⟨w2.heap.size, 0, none⟩)) by rw [← hw3]; exact RepB.new (RepB.none _ _) (RepB.none _ _) HB2.out.size _ _ _ _ _ _ _)
            have hbb3 : Below w2.heap.size w2 w3 := by rw [← hw3]; exact (Below.refl _ _).alloc (Nat.le_refl _) _
            have HBw3 := hid (HB2.out.trans (hbb3.mono HB2.out.size))
            clear hw3
            have HAC3 := hid (HAC2.out.below hbb3)
            have HBX3 := hid ((hbb3.block bx hlx).trans HBX2.out)
            have hlx3 := boxLt HBX3.out
            have HB23 := hid hbb3
            clear hbb3
            obtain ⟨b3, hbe3⟩ : ∃ b, w2.heap.size = b := ⟨_, rfl⟩
            rw [hbe3] at HE3
            rw [hbe3]
            clear hbe3
            clear z0 z1 z2 HE3
            have z2 : w3.cell? ⟨bx, 2, none⟩ = some (.slice (some ⟨gx, 0, none⟩) ws.len cx) := (cell_block HBX3.out 2).trans rfl
            have HR3 := hid (show Below wr.heap.size wr w3 from HWR.out.trans (HB23.out.mono HWR.out.size))
            have HL3 := hid (HL0.out.below HR3.out)
            have y00 : w3.cell? ⟨gx, 0, none⟩ = some (.slice al l0.len cl) := (HR3.out.cell (p := ⟨gx, 0, none⟩) (boxLt4 y0)).trans y0
            have Y33 := hid (Y3.out.keep (w' := w3) (fun a v h => (HR3.out.cell (p := a) (boxLt4 h)).trans h))
            clear y0
            go_upto_region 8 with (go_at_call 32; (with_reducible refine (IH.out l0 htw hwl1 HWL.out _ w3 HL3.out).mono ?_); rintro e w4 ⟨b4, rfl, h4, hb4⟩; have HB4 := hid (HBw3.out.trans (hb4.mono HBw3.out.size)); have HAC4 := hid (HAC3.out.below hb4); have HBX4 := hid ((hb4.block bx hlx3).trans HBX3.out); have H4 := hid (h4.base HBw3.out.size); have Y34 := hid (Y33.out.keep (w' := w4) (fun a v h => (hb4.cell (p := a) (boxLt4 h)).trans h)); clear h4 hb4)
            clear z2 y00
            have hlx4 := boxLt HBX4.out
            have z2 : w4.cell? ⟨bx, 2, none⟩ = some (.slice (some ⟨gx, 0, none⟩) ws.len cx) := (cell_block HBX4.out 2).trans rfl
            by_cases hcx : cx = 1
            · subst hcx
              go_upto_region 9 with fail
              clear z2
              go_loopw [8, 36] (fun o u wx => ∃ (k2 : Nat) (tw : Tr) (x : Ex), u = .int .i64 k2 ∧ Below w4.heap.size w4 wx ∧ tw.wf true ∧ CAt w4 tw gx (1 + k2) ∧ k2 + tw.len = m0.len ∧ tw.tot ≤ m0.tot ∧ x.Is ∧ RepB w.heap.size wx x o ∧ foldE line tw x = foldE line ws .none) (fun _ u _ => ws.len - (intOf u).toNat)
              case atStart => exact ⟨0, m0, andE line l0, rfl, Below.refl _ _, HWM.out, Y34.out, Nat.zero_add _, Nat.le_refl _, exTop_is _ _, H4.out, HFW.out.symm⟩
              case round =>
                rename World => wi
                obtain ⟨k2, tw, x, rfl, jb, jw, jc, jk, jt, ji, jx, jf⟩ := hrel
                have JB := hid jb
                have JX := hid jx
                have JF := hid jf
                obtain ⟨b8, hb8⟩ := jx.ptr ji
                subst hb8
                have HBX5 := hid ((JB.out.block bx hlx4).trans HBX4.out)
                have jcr := jc.keep (w' := wi) (fun a v h => (jb.cell (p := a) (boxLt4 h)).trans h)
                clear jb jx jf
                cases tw with
                | nil =>
                  have hkI2 : ¬ (k2 : Int) < (m0.len : Int) := by simp [Tr.len] at jk; omega
                  have hkI3 : ¬ (k2 : Int) < (ws.len : Int) - 1 := by have hwl := HWLE.out; simp [Tr.len] at jk; omega
                  have hkI4 : ¬ (k2 : Int) < ((ws.len - 1 : Nat) : Int) := by have hwl := HWLE.out; simp [Tr.len] at jk; omega
                  have HXE := hid (show x = foldE line ws .none by rw [← JF.out]; rfl)
                  have z1 : wi.cell? ⟨bx, 1, none⟩ = some (.bool false) := (cell_block HBX5.out 1).trans rfl
                  have HBi := hid (HB4.out.trans (JB.out.mono HB4.out.size))
                  have HACi := hid (HAC4.out.below JB.out)
                  have HEi := hid (show RepB w.heap.size wi (foldE line ws .none) (.pointer (some ⟨b8, 0, none⟩)) by rw [← HXE.out]; exact JX.out)
                  clear jk jt jw jc
                  go_upto_region 15 with fail
                  have hvo : u5 = .pointer none := hacc
                  subst hvo
                  clear hacc
                  go_wp2_with fail
                  go_roundw
                  case rel => exact ⟨k + 1, n, foldE line ws .none, by go_num, HBi.out, HW.out, by rw [Nat.succ_mul]; exact HX.out, HKN.out, HTN.out, HEi.out, HFE.out⟩
                  case measure => simp [intOf]; omega
                | one no nm n2 => exact jw.elim
                | many ws2 n2 => exact jw.elim
                | way l n2 =>
                  have hwl := HWLE.out
                  simp [Tr.len] at jk
                  omega
            · go_upto_region 9 with fail
              clear z2
              go_loopw [8, 36] (fun o u wx => ∃ (k2 : Nat) (tw : Tr) (x : Ex), u = .int .i64 k2 ∧ Below w4.heap.size w4 wx ∧ tw.wf true ∧ CAt w4 tw gx (1 + k2) ∧ k2 + tw.len = m0.len ∧ tw.tot ≤ m0.tot ∧ x.Is ∧ RepB w.heap.size wx x o ∧ foldE line tw x = foldE line ws .none) (fun _ u _ => ws.len - (intOf u).toNat)
              case atStart => exact ⟨0, m0, andE line l0, rfl, Below.refl _ _, HWM.out, Y34.out, Nat.zero_add _, Nat.le_refl _, exTop_is _ _, H4.out, HFW.out.symm⟩
              case round =>
                rename World => wi
                obtain ⟨k2, tw, x, rfl, jb, jw, jc, jk, jt, ji, jx, jf⟩ := hrel
                have JB := hid jb
                have JX := hid jx
                have JF := hid jf
                obtain ⟨b8, hb8⟩ := jx.ptr ji
                subst hb8
                have HBX5 := hid ((JB.out.block bx hlx4).trans HBX4.out)
                have jcr := jc.keep (w' := wi) (fun a v h => (jb.cell (p := a) (boxLt4 h)).trans h)
                clear jb jx jf
                cases tw with
                | nil =>
                  have hkI2 : ¬ (k2 : Int) < (m0.len : Int) := by simp [Tr.len] at jk; omega
                  have hkI3 : ¬ (k2 : Int) < (ws.len : Int) - 1 := by have hwl := HWLE.out; simp [Tr.len] at jk; omega
                  have hkI4 : ¬ (k2 : Int) < ((ws.len - 1 : Nat) : Int) := by have hwl := HWLE.out; simp [Tr.len] at jk; omega
                  have HXE := hid (show x = foldE line ws .none by rw [← JF.out]; rfl)
                  have z1 : wi.cell? ⟨bx, 1, none⟩ = some (.bool false) := (cell_block HBX5.out 1).trans rfl
                  have HBi := hid (HB4.out.trans (JB.out.mono HB4.out.size))
                  have HACi := hid (HAC4.out.below JB.out)
                  have HEi := hid (show RepB w.heap.size wi (foldE line ws .none) (.pointer (some ⟨b8, 0, none⟩)) by rw [← HXE.out]; exact JX.out)
                  clear jk jt jw jc
                  go_upto_region 15 with fail
                  have hvo : u5 = .pointer none := hacc
                  subst hvo
                  clear hacc
                  go_wp2_with fail
                  go_roundw
                  case rel => exact ⟨k + 1, n, foldE line ws .none, by go_num, HBi.out, HW.out, by rw [Nat.succ_mul]; exact HX.out, HKN.out, HTN.out, HEi.out, HFE.out⟩
                  case measure => simp [intOf]; omega
                | one no nm n2 => exact jw.elim
                | many ws2 n2 => exact jw.elim
                | way l n2 =>
                  obtain ⟨⟨al2, cl2, p0, hcl2, p1⟩, p3⟩ := jcr
                  obtain ⟨hwl2, hwn2⟩ := jw
                  have HL := hid (show SAt wi l (.slice al2 l.len cl2) from ⟨al2, cl2, rfl, hcl2, p1⟩)
                  have P3 := hid jc.2
                  have HWL2 := hid hwl2
                  have HWM2 := hid hwn2
                  have hkI2 : (k2 : Int) < (m0.len : Int) := by simp [Tr.len] at jk; omega
                  have hkI3 : (k2 : Int) < (ws.len : Int) - 1 := by have hwl := HWLE.out; simp [Tr.len] at jk; omega
                  have hkI4 : (k2 : Int) < ((ws.len - 1 : Nat) : Int) := by have hwl := HWLE.out; simp [Tr.len] at jk; omega
                  have hk20 : (0 : Int) ≤ (k2 : Int) := by omega
                  have hkl2 : k2 < ws.len - 1 := by have hwl := HWLE.out; simp [Tr.len] at jk; omega
                  have HKN2 := hid (show k2 + 1 + n2.len = m0.len by simp [Tr.len] at jk; omega)
                  have htn2 : 1 + l.tot + n2.tot ≤ m0.tot := jt
                  have HTN2 := hid (show n2.tot ≤ m0.tot by omega)
                  have HM1 := HM0.out
                  have hl1 : l.tot < N := by omega
                  have hl2 : l.tot ≤ 1000000 := by omega
                  clear p1 p3 hwl2 hwn2 jk jt htn2 jc HM1
                  go_upto_region 12 with (go_at_call 32; (with_reducible refine (IH.out l hl1 hl2 HWL2.out _ wi HL.out).mono ?_); rintro e w5 ⟨b5, rfl, h5, hb5⟩; have HB5 := hid (JB.out.trans (hb5.mono JB.out.size)); have HX5 := hid (JX.out.below hb5); have HBI := hid ((HB4.out.trans (JB.out.mono HB4.out.size)).size); have H5 := hid (h5.base HBI.out); have HBW5 := hid (HB4.out.trans (HB5.out.mono HB4.out.size)); clear h5 hb5)
                  generalize hw6 : World.alloc w5 _ = w6
                  have HE6 := hid (show RepB w.heap.size w6 (exOr line x (andE line l)) (.pointer (some ⟨w5.heap.size, 0, none⟩)) by rw [← hw6]; exact RepB.new (HX5.out) (H5.out) HBW5.out.size _ _ _ _ _ _ _)
                  have hbb6 : Below w5.heap.size w5 w6 := by rw [← hw6]; exact (Below.refl _ _).alloc (Nat.le_refl _) _
                  have HBW6 := hid (HBW5.out.trans (hbb6.mono HBW5.out.size))
                  clear hw6
                  have HBB6 := hid hbb6
                  clear hbb6
                  obtain ⟨b6, hbe6⟩ : ∃ b, w5.heap.size = b := ⟨_, rfl⟩
                  rw [hbe6] at HE6
                  rw [hbe6]
                  clear hbe6
                  have HB6 := hid (show Below w4.heap.size w4 w6 from HB5.out.trans (HBB6.out.mono HB5.out.size))
                  go_wp2_with fail
                  go_roundw
                  case rel => exact ⟨k2 + 1, n2, exOr line x (andE line l), by go_num, HB6.out, HWM2.out, P3.out, HKN2.out, HTN2.out, exOr_is _ _ _, HE6.out, by rw [← JF.out]; obtain ⟨_, _, _, _, _, _, _, _, _, rfl⟩ := ji; rfl⟩
                  case measure => simp [intOf]; omega
          | node ek el ev et en es eo ea eb =>
            go_upto_region 5 with fail
            have h2 : Below wr.heap.size wr (wr.alloc (.cells #[st [], .bool false, .slice (some ⟨gx, 0, none⟩) ws.len cx] 77)) := (Below.refl _ _).alloc (Nat.le_refl _) _
            have hbx : (wr.alloc (.cells #[st [], .bool false, .slice (some ⟨gx, 0, none⟩) ws.len cx] 77)).heap[wr.heap.size]? = some (.cells #[st [], .bool false, .slice (some ⟨gx, 0, none⟩) ws.len cx] 77 (0, 0)) := heap_alloc_new wr _
            obtain ⟨bx, hbxe⟩ : ∃ bx, wr.heap.size = bx := ⟨_, rfl⟩
            have HB2 := hid (HB.out.trans (h2.mono HB.out.size))
            have HAC2 := hid (HACC.out.below h2)
            have HWR := hid h2
            rw [hbxe] at hbx
            rw [hbxe]
            generalize wr.alloc _ = w2 at hbx HB2 HAC2 HWR ⊢
            have z0 : w2.cell? ⟨bx, 0, none⟩ = some (st []) := (cell_block hbx 0).trans rfl
            have z1 : w2.cell? ⟨bx, 1, none⟩ = some (.bool false) := (cell_block hbx 1).trans rfl
            have z2 : w2.cell? ⟨bx, 2, none⟩ = some (.slice (some ⟨gx, 0, none⟩) ws.len cx) := (cell_block hbx 2).trans rfl
            have hlx := boxLt hbx
            have HBX2 := hid hbx
            clear h2 hbx hbxe x0 x1 x2
            go_upto_region 6 with fail
            generalize hw3 : World.alloc w2 _ = w3
            have HE3 := hid (show RepB w.heap.size w3 (exName line []) (.pointer (some ⟨w2.heap.size, 0, none⟩)) by rw [← hw3]; exact RepB.new (RepB.none _ _) (RepB.none _ _) HB2.out.size _ _ _ _ _ _ _)
            have hbb3 : Below w2.heap.size w2 w3 := by rw [← hw3]; exact (Below.refl _ _).alloc (Nat.le_refl _) _
            have HBw3 := hid (HB2.out.trans (hbb3.mono HB2.out.size))
            clear hw3
            have HAC3 := hid (HAC2.out.below hbb3)
            have HBX3 := hid ((hbb3.block bx hlx).trans HBX2.out)
            have hlx3 := boxLt HBX3.out
            have HB23 := hid hbb3
            clear hbb3
            obtain ⟨b3, hbe3⟩ : ∃ b, w2.heap.size = b := ⟨_, rfl⟩
            rw [hbe3] at HE3
            rw [hbe3]
            clear hbe3
            clear z0 z1 z2 HE3
            have z2 : w3.cell? ⟨bx, 2, none⟩ = some (.slice (some ⟨gx, 0, none⟩) ws.len cx) := (cell_block HBX3.out 2).trans rfl
            have HR3 := hid (show Below wr.heap.size wr w3 from HWR.out.trans (HB23.out.mono HWR.out.size))
            have HL3 := hid (HL0.out.below HR3.out)
            have y00 : w3.cell? ⟨gx, 0, none⟩ = some (.slice al l0.len cl) := (HR3.out.cell (p := ⟨gx, 0, none⟩) (boxLt4 y0)).trans y0
            have Y33 := hid (Y3.out.keep (w' := w3) (fun a v h => (HR3.out.cell (p := a) (boxLt4 h)).trans h))
            clear y0
            go_upto_region 8 with (go_at_call 32; (with_reducible refine (IH.out l0 htw hwl1 HWL.out _ w3 HL3.out).mono ?_); rintro e w4 ⟨b4, rfl, h4, hb4⟩; have HB4 := hid (HBw3.out.trans (hb4.mono HBw3.out.size)); have HAC4 := hid (HAC3.out.below hb4); have HBX4 := hid ((hb4.block bx hlx3).trans HBX3.out); have H4 := hid (h4.base HBw3.out.size); have Y34 := hid (Y33.out.keep (w' := w4) (fun a v h => (hb4.cell (p := a) (boxLt4 h)).trans h)); clear h4 hb4)
            clear z2 y00
            have hlx4 := boxLt HBX4.out
            have z2 : w4.cell? ⟨bx, 2, none⟩ = some (.slice (some ⟨gx, 0, none⟩) ws.len cx) := (cell_block HBX4.out 2).trans rfl
            by_cases hcx : cx = 1
            · subst hcx
              go_upto_region 9 with fail
              clear z2
              go_loopw [8, 36] (fun o u wx => ∃ (k2 : Nat) (tw : Tr) (x : Ex), u = .int .i64 k2 ∧ Below w4.heap.size w4 wx ∧ tw.wf true ∧ CAt w4 tw gx (1 + k2) ∧ k2 + tw.len = m0.len ∧ tw.tot ≤ m0.tot ∧ x.Is ∧ RepB w.heap.size wx x o ∧ foldE line tw x = foldE line ws .none) (fun _ u _ => ws.len - (intOf u).toNat)
              case atStart => exact ⟨0, m0, andE line l0, rfl, Below.refl _ _, HWM.out, Y34.out, Nat.zero_add _, Nat.le_refl _, exTop_is _ _, H4.out, HFW.out.symm⟩
              case round =>
                rename World => wi
                obtain ⟨k2, tw, x, rfl, jb, jw, jc, jk, jt, ji, jx, jf⟩ := hrel
                have JB := hid jb
                have JX := hid jx
                have JF := hid jf
                obtain ⟨b8, hb8⟩ := jx.ptr ji
                subst hb8
                have HBX5 := hid ((JB.out.block bx hlx4).trans HBX4.out)
                have jcr := jc.keep (w' := wi) (fun a v h => (jb.cell (p := a) (boxLt4 h)).trans h)
                clear jb jx jf
                cases tw with
                | nil =>
                  have hkI2 : ¬ (k2 : Int) < (m0.len : Int) := by simp [Tr.len] at jk; omega
                  have hkI3 : ¬ (k2 : Int) < (ws.len : Int) - 1 := by have hwl := HWLE.out; simp [Tr.len] at jk; omega
                  have hkI4 : ¬ (k2 : Int) < ((ws.len - 1 : Nat) : Int) := by have hwl := HWLE.out; simp [Tr.len] at jk; omega
                  have HXE := hid (show x = foldE line ws .none by rw [← JF.out]; rfl)
                  have z1 : wi.cell? ⟨bx, 1, none⟩ = some (.bool false) := (cell_block HBX5.out 1).trans rfl
                  have HBi := hid (HB4.out.trans (JB.out.mono HB4.out.size))
                  have HACi := hid (HAC4.out.below JB.out)
                  have HEi := hid (show RepB w.heap.size wi (foldE line ws .none) (.pointer (some ⟨b8, 0, none⟩)) by rw [← HXE.out]; exact JX.out)
                  clear jk jt jw jc
                  go_upto_region 15 with fail
                  obtain ⟨b0, vl0, vr0, hvo, _⟩ := hacc
                  subst hvo
                  go_upto_region 17 with fail
                  generalize hw9 : World.alloc wi _ = w9
                  have HE9 := hid (show RepB w.heap.size w9 (exAnd line (.node ek el ev et en es eo ea eb) (foldE line ws .none)) (.pointer (some ⟨wi.heap.size, 0, none⟩)) by rw [← hw9]; exact RepB.new (HACi.out) (HEi.out) HBi.out.size _ _ _ _ _ _ _)
                  have hbb9 : Below wi.heap.size wi w9 := by rw [← hw9]; exact (Below.refl _ _).alloc (Nat.le_refl _) _
                  have HBw9 := hid (HBi.out.trans (hbb9.mono HBi.out.size))
                  clear hw9
                  clear hbb9
                  obtain ⟨b9, hbe9⟩ : ∃ b, wi.heap.size = b := ⟨_, rfl⟩
                  rw [hbe9] at HE9
                  rw [hbe9]
                  clear hbe9
                  go_wp2_with fail
                  go_roundw
                  case rel => exact ⟨k + 1, n, exAnd line (.node ek el ev et en es eo ea eb) (foldE line ws .none), by go_num, HBw9.out, HW.out, by rw [Nat.succ_mul]; exact HX.out, HKN.out, HTN.out, HE9.out, HFE.out⟩
                  case measure => simp [intOf]; omega
                | one no nm n2 => exact jw.elim
                | many ws2 n2 => exact jw.elim
                | way l n2 =>
                  have hwl := HWLE.out
                  simp [Tr.len] at jk
                  omega
            · go_upto_region 9 with fail
              clear z2
              go_loopw [8, 36] (fun o u wx => ∃ (k2 : Nat) (tw : Tr) (x : Ex), u = .int .i64 k2 ∧ Below w4.heap.size w4 wx ∧ tw.wf true ∧ CAt w4 tw gx (1 + k2) ∧ k2 + tw.len = m0.len ∧ tw.tot ≤ m0.tot ∧ x.Is ∧ RepB w.heap.size wx x o ∧ foldE line tw x = foldE line ws .none) (fun _ u _ => ws.len - (intOf u).toNat)
              case atStart => exact ⟨0, m0, andE line l0, rfl, Below.refl _ _, HWM.out, Y34.out, Nat.zero_add _, Nat.le_refl _, exTop_is _ _, H4.out, HFW.out.symm⟩
              case round =>
                rename World => wi
                obtain ⟨k2, tw, x, rfl, jb, jw, jc, jk, jt, ji, jx, jf⟩ := hrel
                have JB := hid jb
                have JX := hid jx
                have JF := hid jf
                obtain ⟨b8, hb8⟩ := jx.ptr ji
                subst hb8
                have HBX5 := hid ((JB.out.block bx hlx4).trans HBX4.out)
                have jcr := jc.keep (w' := wi) (fun a v h => (jb.cell (p := a) (boxLt4 h)).trans h)
                clear jb jx jf
                cases tw with
                | nil =>
                  have hkI2 : ¬ (k2 : Int) < (m0.len : Int) := by simp [Tr.len] at jk; omega
                  have hkI3 : ¬ (k2 : Int) < (ws.len : Int) - 1 := by have hwl := HWLE.out; simp [Tr.len] at jk; omega
                  have hkI4 : ¬ (k2 : Int) < ((ws.len - 1 : Nat) : Int) := by have hwl := HWLE.out; simp [Tr.len] at jk; omega
                  have HXE := hid (show x = foldE line ws .none by rw [← JF.out]; rfl)
                  have z1 : wi.cell? ⟨bx, 1, none⟩ = some (.bool false) := (cell_block HBX5.out 1).trans rfl
                  have HBi := hid (HB4.out.trans (JB.out.mono HB4.out.size))
                  have HACi := hid (HAC4.out.below JB.out)
                  have HEi := hid (show RepB w.heap.size wi (foldE line ws .none) (.pointer (some ⟨b8, 0, none⟩)) by rw [← HXE.out]; exact JX.out)
                  clear jk jt jw jc
                  go_upto_region 15 with fail
                  obtain ⟨b0, vl0, vr0, hvo, _⟩ := hacc
                  subst hvo
                  go_upto_region 17 with fail
                  generalize hw9 : World.alloc wi _ = w9
                  have HE9 := hid (show RepB w.heap.size w9 (exAnd line (.node ek el ev et en es eo ea eb) (foldE line ws .none)) (.pointer (some ⟨wi.heap.size, 0, none⟩)) by rw [← hw9]; exact RepB.new (HACi.out) (HEi.out) HBi.out.size _ _ _ _ _ _ _)
                  have hbb9 : Below wi.heap.size wi w9 := by rw [← hw9]; exact (Below.refl _ _).alloc (Nat.le_refl _) _
                  have HBw9 := hid (HBi.out.trans (hbb9.mono HBi.out.size))
                  clear hw9
                  clear hbb9
                  obtain ⟨b9, hbe9⟩ : ∃ b, wi.heap.size = b := ⟨_, rfl⟩
                  rw [hbe9] at HE9
                  rw [hbe9]
                  clear hbe9
                  go_wp2_with fail
                  go_roundw
                  case rel => exact ⟨k + 1, n, exAnd line (.node ek el ev et en es eo ea eb) (foldE line ws .none), by go_num, HBw9.out, HW.out, by rw [Nat.succ_mul]; exact HX.out, HKN.out, HTN.out, HE9.out, HFE.out⟩
                  case measure => simp [intOf]; omega
                | one no nm n2 => exact jw.elim
                | many ws2 n2 => exact jw.elim
                | way l n2 =>
                  obtain ⟨⟨al2, cl2, p0, hcl2, p1⟩, p3⟩ := jcr
                  obtain ⟨hwl2, hwn2⟩ := jw
                  have HL := hid (show SAt wi l (.slice al2 l.len cl2) from ⟨al2, cl2, rfl, hcl2, p1⟩)
                  have P3 := hid jc.2
                  have HWL2 := hid hwl2
                  have HWM2 := hid hwn2
                  have hkI2 : (k2 : Int) < (m0.len : Int) := by simp [Tr.len] at jk; omega
                  have hkI3 : (k2 : Int) < (ws.len : Int) - 1 := by have hwl := HWLE.out; simp [Tr.len] at jk; omega
                  have hkI4 : (k2 : Int) < ((ws.len - 1 : Nat) : Int) := by have hwl := HWLE.out; simp [Tr.len] at jk; omega
                  have hk20 : (0 : Int) ≤ (k2 : Int) := by omega
                  have hkl2 : k2 < ws.len - 1 := by have hwl := HWLE.out; simp [Tr.len] at jk; omega
                  have HKN2 := hid (show k2 + 1 + n2.len = m0.len by simp [Tr.len] at jk; omega)
                  have htn2 : 1 + l.tot + n2.tot ≤ m0.tot := jt
                  have HTN2 := hid (show n2.tot ≤ m0.tot by omega)
                  have HM1 := HM0.out
                  have hl1 : l.tot < N := by omega
                  have hl2 : l.tot ≤ 1000000 := by omega
                  clear p1 p3 hwl2 hwn2 jk jt htn2 jc HM1
                  go_upto_region 12 with (go_at_call 32; (with_reducible refine (IH.out l hl1 hl2 HWL2.out _ wi HL.out).mono ?_); rintro e w5 ⟨b5, rfl, h5, hb5⟩; have HB5 := hid (JB.out.trans (hb5.mono JB.out.size)); have HX5 := hid (JX.out.below hb5); have HBI := hid ((HB4.out.trans (JB.out.mono HB4.out.size)).size); have H5 := hid (h5.base HBI.out); have HBW5 := hid (HB4.out.trans (HB5.out.mono HB4.out.size)); clear h5 hb5)
                  generalize hw6 : World.alloc w5 _ = w6
                  have HE6 := hid (show RepB w.heap.size w6 (exOr line x (andE line l)) (.pointer (some ⟨w5.heap.size, 0, none⟩)) by rw [← hw6]; exact RepB.new (HX5.out) (H5.out) HBW5.out.size _ _ _ _ _ _ _)
                  have hbb6 : Below w5.heap.size w5 w6 := by rw [← hw6]; exact (Below.refl _ _).alloc (Nat.le_refl _) _
                  have HBW6 := hid (HBW5.out.trans (hbb6.mono HBW5.out.size))
                  clear hw6
                  have HBB6 := hid hbb6
                  clear hbb6
                  obtain ⟨b6, hbe6⟩ : ∃ b, w5.heap.size = b := ⟨_, rfl⟩
                  rw [hbe6] at HE6
                  rw [hbe6]
                  clear hbe6
                  have HB6 := hid (show Below w4.heap.size w4 w6 from HB5.out.trans (HBB6.out.mono HB5.out.size))
                  go_wp2_with fail
                  go_roundw
                  case rel => exact ⟨k2 + 1, n2, exOr line x (andE line l), by go_num, HB6.out, HWM2.out, P3.out, HKN2.out, HTN2.out, exOr_is _ _ _, HE6.out, by rw [← JF.out]; obtain ⟨_, _, _, _, _, _, _, _, _, rfl⟩ := ji; rfl⟩
                  case measure => simp [intOf]; omega
        | way l n => exact hw1.elim
end Go.Proofs.YtlaeflpddehipabGreatDoor

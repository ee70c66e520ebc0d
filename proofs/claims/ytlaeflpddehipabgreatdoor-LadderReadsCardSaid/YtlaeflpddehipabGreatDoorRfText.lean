/- The document's cellsText. -/
import Derived.Test.YtlaeflpddehipabGreatDoorLdText
set_option linter.unusedVariables false
set_option linter.unusedSimpArgs false
namespace Go.Proofs.YtlaeflpddehipabGreatDoor
open Go.RowKit
attribute [local go_sem ↓] Go.wp_at_zero Go.wp_at_succ

theorem str_app (a b : Bs) : (⟨a.toArray⟩ : ByteArray) ++ ⟨b.toArray⟩ = ⟨(a ++ b).toArray⟩ := by
  apply ByteArray.ext
  apply Array.ext'
  simp [ByteArray.data_append]
theorem join_snoc (sep x : Bs) : ∀ xs : List Bs, Lib.join (xs ++ [x]) sep = (if xs = [] then [] else Lib.join xs sep ++ sep) ++ x
  | [] => by simp [Lib.join_one]
  | y :: r => by
    rw [if_neg (List.cons_ne_nil _ _), List.cons_append, Lib.join_cons, Lib.join_cons]
    simp [Lib.joinTail, List.append_assoc]
/-- Ways, as far as they are written. -/
def wtext (dw : List Bs) : Bs := if dw = [] then [] else 91 :: Lib.join dw [32, 124, 32]
theorem wtext_snoc (x : Bs) (dw : List Bs) : wtext (dw ++ [x]) = wtext dw ++ ((if dw = [] then [91] else [32, 124, 32]) ++ x) := by
  unfold wtext
  rw [if_neg (by simp), join_snoc]
  by_cases h : dw = []
  · simp [h]
  · simp [h, List.append_assoc]
theorem sum3_app : ∀ a b : List Bs, sum3 (a ++ b) = sum3 a + sum3 b
  | [], b => by simp [sum3]
  | p :: a, b => by simp [sum3, sum3_app a b]; omega
theorem idx20 (w : World) : (Instr.index 119 (.agg #[.string ⟨#[91]⟩, .string ⟨#[32, 124, 32]⟩]) (.int .i64 0)).run Tryz.prog w = .ok (.string ⟨#[91]⟩) w := by
  have h : Tryz.prog.underlying 119 = some (.array 2 9) := by kernel_rfl
  simp [Instr.index, run_underlying h, asIntOf, go_sem]
theorem idx21 (w : World) : (Instr.index 119 (.agg #[.string ⟨#[91]⟩, .string ⟨#[32, 124, 32]⟩]) (.int .i64 1)).run Tryz.prog w = .ok (.string ⟨#[32, 124, 32]⟩) w := by
  have h : Tryz.prog.underlying 119 = some (.array 2 9) := by kernel_rfl
  simp [Instr.index, run_underlying h, asIntOf, go_sem]
theorem wtext_le (dw : List Bs) : (wtext dw).length ≤ 1 + sum3 dw := by
  unfold wtext
  have h := join_le [32, 124, 32] (by simp) dw
  split
  · simp
  · simp only [List.length_cons]
    omega
set_option maxRecDepth 100000 in
set_option maxHeartbeats 3200000 in
theorem cellsText_any : ∀ (N : Nat) (t : Tr), t.tot < N → t.tot ≤ 1000000 → t.wf false → ∀ (v : Value) (w : World), SAt w t v → Calls Tryz.prog 30 #[v] w fun e w' => e = .returned (st (ctext t)) ∧ Below w.heap.size w w' := by
  intro N
  induction N with
  | zero => intro t h; omega
  | succ N ih =>
    intro t hN ht hwf v w hv
    have IH := hid ih
    obtain ⟨a, c, rfl, hc, h1⟩ := hv
    clear ih
    have hlt := t.len_tot
    have HSUM := hid (sum3_le false t hwf)
    go_enter Tryz.func30, Tryz.ntmps30
    go_upto_region 3 with fail
    rcases h1 with h0 | ⟨g, rfl, hg⟩
    · have h0I : ¬ (0 : Int) < (t.len : Int) := by omega
      have HT0 := hid (show t = .nil by cases t <;> simp_all [Tr.len])
      go_loopw [3, 10] (fun o u wr => o = st [] ∧ u = .int .i64 0 ∧ wr = w) (fun _ _ _ => 0)
      case atStart => exact ⟨rfl, rfl, rfl⟩
      case round =>
        obtain ⟨rfl, rfl, hwr⟩ := hrel
        subst wr
        go_wp2_with fail
        go_ret
        rw [HT0.out]
        exact ⟨rfl, Below.refl _ _⟩
    · go_loopw [3, 10] (fun o u wr => ∃ (k : Nat) (tr : Tr) (dn : List Bs), u = .int .i64 k ∧ Below w.heap.size w wr ∧ tr.wf false ∧ CAt w tr g (k * 3) ∧ k + tr.len = t.len ∧ tr.tot ≤ t.tot ∧ o = st (Lib.join dn [32]) ∧ dn ++ tr.pieces = t.pieces ∧ dn.length = k) (fun _ u _ => t.len - (intOf u).toNat)
      case atStart => exact ⟨0, t, [], rfl, Below.refl _ _, hwf, hg, Nat.zero_add _, Nat.le_refl _, rfl, rfl, rfl⟩
      case round =>
        obtain ⟨k, tr, dn, rfl, hb, hw1, hc1, hk, htt, rfl, hpc, hdn⟩ := hrel
        have HB := hid hb
        have HPC := hid hpc
        have HDN := hid hdn
        have hcr := hc1.keep (w' := wr) (fun a v h => (hb.cell (p := a) (boxLt4 h)).trans h)
        have hsl : (Lib.join dn [32]).length ≤ 16000000 := by
          have h1 := join_le [32] (by simp) dn
          have h2 := HSUM.out
          rw [← hpc, sum3_app] at h2
          omega
        obtain ⟨S, hS⟩ : ∃ S, Lib.join dn [32] = S := ⟨_, rfl⟩
        have HS := hid hS
        rw [hS] at hsl
        rw [hS]
        clear hb hpc hdn hS
        cases tr with
        | nil =>
          have hkI : ¬ (k : Int) < (t.len : Int) := by simp [Tr.len] at hk; omega
          have HDT := hid (show S = ctext t by have := HPC.out; rw [← HS.out, ctext, ← this]; simp [Tr.pieces])
          clear hk htt
          go_wp2_with fail
          go_ret
          exact ⟨by rw [← HDT.out]; rfl, HB.out⟩
        | one no nm n =>
          obtain ⟨x0, x1, x2, x3⟩ := hcr
          have HX := hid hc1.2.2.2
          have HW := hid hw1.2
          have hnm12 : nm.length ≤ 12 := hw1.1
          have hnms := st_size nm
          have hkI : (k : Int) < (t.len : Int) := by simp [Tr.len] at hk; omega
          have hk0 : (0 : Int) ≤ (k : Int) := by omega
          have hkl : k < t.len := by simp [Tr.len] at hk; omega
          have HKN := hid (show k + 1 + n.len = t.len by simp [Tr.len] at hk; omega)
          have HTN := hid (show n.tot ≤ t.tot by simp [Tr.tot] at htt; omega)
          clear x3 hw1 hc1 hk htt
          cases no with
          | true =>
            by_cases hkz0 : k = 0
            · have hkz : ¬ (0 : Int) < (k : Int) := by omega
              have HS1 := hid (show ∀ p, Lib.join (dn ++ [p]) [32] = S ++ p by
                intro p
                have hd0 : dn = [] := List.eq_nil_of_length_eq_zero (by rw [HDN.out]; exact hkz0)
                rw [← HS.out, hd0]
                simp [Lib.join_one, Lib.join_nil])
              have hs1 : S.length ≤ 16000001 := by omega
              clear hkz0
              go_upto_region 7 with fail
              obtain ⟨S1, hS1⟩ : ∃ S1, S = S1 := ⟨_, rfl⟩
              rw [hS1] at HS1 hs1
              rw [hS1]
              clear hS1
              have h2 : Below wr.heap.size wr (wr.alloc (.cells #[st nm, .bool true, .slice none 0 0] 80)) := (Below.refl _ _).alloc (Nat.le_refl _) _
              have hbx : (wr.alloc (.cells #[st nm, .bool true, .slice none 0 0] 80)).heap[wr.heap.size]? = some (.cells #[st nm, .bool true, .slice none 0 0] 80 (0, 0)) := heap_alloc_new wr _
              obtain ⟨bx, hbxe⟩ : ∃ bx, wr.heap.size = bx := ⟨_, rfl⟩
              have HB2 := hid (HB.out.trans (h2.mono HB.out.size))
              have HWR := hid h2
              rw [hbxe] at hbx
              rw [hbxe]
              generalize wr.alloc _ = w2 at hbx HB2 HWR ⊢
              have HBX := hid hbx
              have z0 : w2.cell? ⟨bx, 0, none⟩ = some (st nm) := (cell_block hbx 0).trans rfl
              have z1 : w2.cell? ⟨bx, 1, none⟩ = some (.bool true) := (cell_block hbx 1).trans rfl
              have z2 : w2.cell? ⟨bx, 2, none⟩ = some (.slice none 0 0) := (cell_block hbx 2).trans rfl
              have hlx := boxLt hbx
              have hs1s := st_size S1
              clear h2 hbx hbxe
              go_upto_region 9 with fail
              rw [show (⟨S1.toArray⟩ : ByteArray) ++ ⟨#[47]⟩ = ⟨(S1 ++ [47]).toArray⟩ from str_app S1 [47]]
              have hs2s := st_size (S1 ++ [47])
              have hs2 : (S1 ++ [47]).length ≤ 16000002 := by rw [List.length_append]; simp; omega
              obtain ⟨S2, hS2⟩ : ∃ S2, S1 ++ [47] = S2 := ⟨_, rfl⟩
              have HS2 := hid hS2
              rw [hS2] at hs2s hs2
              rw [hS2]
              clear hS2
              go_upto_region 10 with fail
              rw [str_app S2 nm]
              have HP := hid (show st (S2 ++ nm) = st (Lib.join (dn ++ [47 :: nm]) [32]) by rw [HS1.out, ← HS2.out, List.append_assoc]; rfl)
              generalize S2 ++ nm = S3 at HP ⊢
              go_wp2_with fail
              go_loopw [3, 30] (fun o u wx => o = st S3 ∧ u = .int .i64 0 ∧ wx = w2) (fun _ _ _ => 0)
              case atStart => exact ⟨rfl, rfl, rfl⟩
              case round =>
                obtain ⟨rfl, rfl, hwx⟩ := hrel
                subst hwx
                go_wp2_with fail
                go_roundw
                case rel => exact ⟨k + 1, n, dn ++ [47 :: nm], by go_num, HB2.out, HW.out, by rw [Nat.succ_mul]; exact HX.out, HKN.out, HTN.out, HP.out, by rw [List.append_assoc]; exact HPC.out, by rw [List.length_append, HDN.out]; rfl⟩
                case measure => simp [intOf]; omega
            · have hkz : (0 : Int) < (k : Int) := by omega
              have HS1 := hid (show ∀ p, Lib.join (dn ++ [p]) [32] = (S ++ [32]) ++ p by
                intro p
                have hd0 : dn ≠ [] := fun e => hkz0 (by rw [← HDN.out, e]; rfl)
                rw [join_snoc, if_neg hd0, HS.out])
              have hs1 : (S ++ [32]).length ≤ 16000001 := by rw [List.length_append]; simp; omega
              have hss := st_size S
              have hkd : decide (0 < k) = true := decide_eq_true (by omega)
              clear hkz0
              go_upto_region 7 with fail
              (try rw [hkd])
              clear hkd
              have hE := str_app S [32]
              rw [show (⟨S.toArray⟩ : ByteArray) ++ ⟨#[32]⟩ = ⟨(S ++ [32]).toArray⟩ from hE]
              clear hE hss
              obtain ⟨S1, hS1⟩ : ∃ S1, S ++ [32] = S1 := ⟨_, rfl⟩
              rw [hS1] at HS1 hs1
              rw [hS1]
              clear hS1
              have h2 : Below wr.heap.size wr (wr.alloc (.cells #[st nm, .bool true, .slice none 0 0] 80)) := (Below.refl _ _).alloc (Nat.le_refl _) _
              have hbx : (wr.alloc (.cells #[st nm, .bool true, .slice none 0 0] 80)).heap[wr.heap.size]? = some (.cells #[st nm, .bool true, .slice none 0 0] 80 (0, 0)) := heap_alloc_new wr _
              obtain ⟨bx, hbxe⟩ : ∃ bx, wr.heap.size = bx := ⟨_, rfl⟩
              have HB2 := hid (HB.out.trans (h2.mono HB.out.size))
              have HWR := hid h2
              rw [hbxe] at hbx
              rw [hbxe]
              generalize wr.alloc _ = w2 at hbx HB2 HWR ⊢
              have HBX := hid hbx
              have z0 : w2.cell? ⟨bx, 0, none⟩ = some (st nm) := (cell_block hbx 0).trans rfl
              have z1 : w2.cell? ⟨bx, 1, none⟩ = some (.bool true) := (cell_block hbx 1).trans rfl
              have z2 : w2.cell? ⟨bx, 2, none⟩ = some (.slice none 0 0) := (cell_block hbx 2).trans rfl
              have hlx := boxLt hbx
              have hs1s := st_size S1
              clear h2 hbx hbxe
              go_upto_region 9 with fail
              rw [show (⟨S1.toArray⟩ : ByteArray) ++ ⟨#[47]⟩ = ⟨(S1 ++ [47]).toArray⟩ from str_app S1 [47]]
              have hs2s := st_size (S1 ++ [47])
              have hs2 : (S1 ++ [47]).length ≤ 16000002 := by rw [List.length_append]; simp; omega
              obtain ⟨S2, hS2⟩ : ∃ S2, S1 ++ [47] = S2 := ⟨_, rfl⟩
              have HS2 := hid hS2
              rw [hS2] at hs2s hs2
              rw [hS2]
              clear hS2
              go_upto_region 10 with fail
              rw [str_app S2 nm]
              have HP := hid (show st (S2 ++ nm) = st (Lib.join (dn ++ [47 :: nm]) [32]) by rw [HS1.out, ← HS2.out, List.append_assoc]; rfl)
              generalize S2 ++ nm = S3 at HP ⊢
              go_wp2_with fail
              go_loopw [3, 30] (fun o u wx => o = st S3 ∧ u = .int .i64 0 ∧ wx = w2) (fun _ _ _ => 0)
              case atStart => exact ⟨rfl, rfl, rfl⟩
              case round =>
                obtain ⟨rfl, rfl, hwx⟩ := hrel
                subst hwx
                go_wp2_with fail
                go_roundw
                case rel => exact ⟨k + 1, n, dn ++ [47 :: nm], by go_num, HB2.out, HW.out, by rw [Nat.succ_mul]; exact HX.out, HKN.out, HTN.out, HP.out, by rw [List.append_assoc]; exact HPC.out, by rw [List.length_append, HDN.out]; rfl⟩
                case measure => simp [intOf]; omega
          | false =>
            by_cases hkz0 : k = 0
            · have hkz : ¬ (0 : Int) < (k : Int) := by omega
              have HS1 := hid (show ∀ p, Lib.join (dn ++ [p]) [32] = S ++ p by
                intro p
                have hd0 : dn = [] := List.eq_nil_of_length_eq_zero (by rw [HDN.out]; exact hkz0)
                rw [← HS.out, hd0]
                simp [Lib.join_one, Lib.join_nil])
              have hs1 : S.length ≤ 16000001 := by omega
              clear hkz0
              go_upto_region 7 with fail
              obtain ⟨S1, hS1⟩ : ∃ S1, S = S1 := ⟨_, rfl⟩
              rw [hS1] at HS1 hs1
              rw [hS1]
              clear hS1
              have h2 : Below wr.heap.size wr (wr.alloc (.cells #[st nm, .bool false, .slice none 0 0] 80)) := (Below.refl _ _).alloc (Nat.le_refl _) _
              have hbx : (wr.alloc (.cells #[st nm, .bool false, .slice none 0 0] 80)).heap[wr.heap.size]? = some (.cells #[st nm, .bool false, .slice none 0 0] 80 (0, 0)) := heap_alloc_new wr _
              obtain ⟨bx, hbxe⟩ : ∃ bx, wr.heap.size = bx := ⟨_, rfl⟩
              have HB2 := hid (HB.out.trans (h2.mono HB.out.size))
              have HWR := hid h2
              rw [hbxe] at hbx
              rw [hbxe]
              generalize wr.alloc _ = w2 at hbx HB2 HWR ⊢
              have HBX := hid hbx
              have z0 : w2.cell? ⟨bx, 0, none⟩ = some (st nm) := (cell_block hbx 0).trans rfl
              have z1 : w2.cell? ⟨bx, 1, none⟩ = some (.bool false) := (cell_block hbx 1).trans rfl
              have z2 : w2.cell? ⟨bx, 2, none⟩ = some (.slice none 0 0) := (cell_block hbx 2).trans rfl
              have hlx := boxLt hbx
              have hs1s := st_size S1
              clear h2 hbx hbxe
              go_upto_region 10 with fail
              rw [str_app S1 nm]
              have HP := hid (show st (S1 ++ nm) = st (Lib.join (dn ++ [nm]) [32]) by rw [HS1.out])
              generalize S1 ++ nm = S3 at HP ⊢
              go_wp2_with fail
              go_loopw [3, 30] (fun o u wx => o = st S3 ∧ u = .int .i64 0 ∧ wx = w2) (fun _ _ _ => 0)
              case atStart => exact ⟨rfl, rfl, rfl⟩
              case round =>
                obtain ⟨rfl, rfl, hwx⟩ := hrel
                subst hwx
                go_wp2_with fail
                go_roundw
                case rel => exact ⟨k + 1, n, dn ++ [nm], by go_num, HB2.out, HW.out, by rw [Nat.succ_mul]; exact HX.out, HKN.out, HTN.out, HP.out, by rw [List.append_assoc]; exact HPC.out, by rw [List.length_append, HDN.out]; rfl⟩
                case measure => simp [intOf]; omega
            · have hkz : (0 : Int) < (k : Int) := by omega
              have HS1 := hid (show ∀ p, Lib.join (dn ++ [p]) [32] = (S ++ [32]) ++ p by
                intro p
                have hd0 : dn ≠ [] := fun e => hkz0 (by rw [← HDN.out, e]; rfl)
                rw [join_snoc, if_neg hd0, HS.out])
              have hs1 : (S ++ [32]).length ≤ 16000001 := by rw [List.length_append]; simp; omega
              have hss := st_size S
              have hkd : decide (0 < k) = true := decide_eq_true (by omega)
              clear hkz0
              go_upto_region 7 with fail
              (try rw [hkd])
              clear hkd
              have hE := str_app S [32]
              rw [show (⟨S.toArray⟩ : ByteArray) ++ ⟨#[32]⟩ = ⟨(S ++ [32]).toArray⟩ from hE]
              clear hE hss
              obtain ⟨S1, hS1⟩ : ∃ S1, S ++ [32] = S1 := ⟨_, rfl⟩
              rw [hS1] at HS1 hs1
              rw [hS1]
              clear hS1
              have h2 : Below wr.heap.size wr (wr.alloc (.cells #[st nm, .bool false, .slice none 0 0] 80)) := (Below.refl _ _).alloc (Nat.le_refl _) _
              have hbx : (wr.alloc (.cells #[st nm, .bool false, .slice none 0 0] 80)).heap[wr.heap.size]? = some (.cells #[st nm, .bool false, .slice none 0 0] 80 (0, 0)) := heap_alloc_new wr _
              obtain ⟨bx, hbxe⟩ : ∃ bx, wr.heap.size = bx := ⟨_, rfl⟩
              have HB2 := hid (HB.out.trans (h2.mono HB.out.size))
              have HWR := hid h2
              rw [hbxe] at hbx
              rw [hbxe]
              generalize wr.alloc _ = w2 at hbx HB2 HWR ⊢
              have HBX := hid hbx
              have z0 : w2.cell? ⟨bx, 0, none⟩ = some (st nm) := (cell_block hbx 0).trans rfl
              have z1 : w2.cell? ⟨bx, 1, none⟩ = some (.bool false) := (cell_block hbx 1).trans rfl
              have z2 : w2.cell? ⟨bx, 2, none⟩ = some (.slice none 0 0) := (cell_block hbx 2).trans rfl
              have hlx := boxLt hbx
              have hs1s := st_size S1
              clear h2 hbx hbxe
              go_upto_region 10 with fail
              rw [str_app S1 nm]
              have HP := hid (show st (S1 ++ nm) = st (Lib.join (dn ++ [nm]) [32]) by rw [HS1.out])
              generalize S1 ++ nm = S3 at HP ⊢
              go_wp2_with fail
              go_loopw [3, 30] (fun o u wx => o = st S3 ∧ u = .int .i64 0 ∧ wx = w2) (fun _ _ _ => 0)
              case atStart => exact ⟨rfl, rfl, rfl⟩
              case round =>
                obtain ⟨rfl, rfl, hwx⟩ := hrel
                subst hwx
                go_wp2_with fail
                go_roundw
                case rel => exact ⟨k + 1, n, dn ++ [nm], by go_num, HB2.out, HW.out, by rw [Nat.succ_mul]; exact HX.out, HKN.out, HTN.out, HP.out, by rw [List.append_assoc]; exact HPC.out, by rw [List.length_append, HDN.out]; rfl⟩
                case measure => simp [intOf]; omega
        | many ws n =>
          obtain ⟨x0, x1, ⟨ax, cx, x2, hcx, x4⟩, x3⟩ := hcr
          obtain ⟨⟨l0, m0, hws⟩, hwt, hwn⟩ := hw1
          have HX := hid hc1.2.2.2
          have hwl : 0 < ws.len := by rw [hws]; simp [Tr.len]
          have HWL := hid hwl
          obtain ⟨gx, rfl, hgx⟩ := x4.resolve_left (by omega)
          have HW := hid hwn
          have HWT := hid hwt
          have HGX := hid hgx
          have hkI : (k : Int) < (t.len : Int) := by simp [Tr.len] at hk; omega
          have hk0 : (0 : Int) ≤ (k : Int) := by omega
          have hkl : k < t.len := by simp [Tr.len] at hk; omega
          have HKN := hid (show k + 1 + n.len = t.len by simp [Tr.len] at hk; omega)
          have htn : 1 + ws.tot + n.tot ≤ t.tot := htt
          have HTN := hid (show n.tot ≤ t.tot by omega)
          have htw : ws.tot < N := by omega
          have hwl1 : ws.tot ≤ 1000000 := by omega
          have hwl3 : ws.len ≤ 1000000 := by have := ws.len_tot; omega
          have hwlI : (0 : Int) < (ws.len : Int) := by omega
          have HWS3 := hid (show sum3 ws.pieces ≤ 16000000 by have := sum3_le true ws hwt; omega)
          clear x3 hwn hwt hws hgx x4 hc1 hk htt htn
          by_cases hkz0 : k = 0
          · have hkz : ¬ (0 : Int) < (k : Int) := by omega
            have HS1 := hid (show ∀ p, Lib.join (dn ++ [p]) [32] = S ++ p by
              intro p
              have hd0 : dn = [] := List.eq_nil_of_length_eq_zero (by rw [HDN.out]; exact hkz0)
              rw [← HS.out, hd0]
              simp [Lib.join_one, Lib.join_nil])
            have hs1 : S.length ≤ 16000001 := by omega
            clear hkz0
            go_upto_region 7 with fail
            obtain ⟨S1, hS1⟩ : ∃ S1, S = S1 := ⟨_, rfl⟩
            rw [hS1] at HS1 hs1
            rw [hS1]
            clear hS1
            have h2 : Below wr.heap.size wr (wr.alloc (.cells #[st [], .bool false, .slice (some ⟨gx, 0, none⟩) ws.len cx] 80)) := (Below.refl _ _).alloc (Nat.le_refl _) _
            have hbx : (wr.alloc (.cells #[st [], .bool false, .slice (some ⟨gx, 0, none⟩) ws.len cx] 80)).heap[wr.heap.size]? = some (.cells #[st [], .bool false, .slice (some ⟨gx, 0, none⟩) ws.len cx] 80 (0, 0)) := heap_alloc_new wr _
            obtain ⟨bx, hbxe⟩ : ∃ bx, wr.heap.size = bx := ⟨_, rfl⟩
            have HB2 := hid (HB.out.trans (h2.mono HB.out.size))
            have HWR := hid h2
            rw [hbxe] at hbx
            rw [hbxe]
            generalize wr.alloc _ = w2 at hbx HB2 HWR ⊢
            have HBX := hid hbx
            have z0 : w2.cell? ⟨bx, 0, none⟩ = some (st []) := (cell_block hbx 0).trans rfl
            have z1 : w2.cell? ⟨bx, 1, none⟩ = some (.bool false) := (cell_block hbx 1).trans rfl
            have z2 : w2.cell? ⟨bx, 2, none⟩ = some (.slice (some ⟨gx, 0, none⟩) ws.len cx) := (cell_block hbx 2).trans rfl
            have hlx := boxLt hbx
            have hs1s := st_size S1
            clear h2 hbx hbxe
            go_upto_region 10 with fail
            rw [str_app S1 [], List.append_nil]
            have HGX2 := hid (HGX.out.keep (w' := w2) (fun a v h => (HWR.out.cell (p := a) (boxLt4 h)).trans h))
            go_upto_region 11 with fail
            clear z0 z1 z2 hs1s
            go_loopw [3, 30] (fun o u wx => ∃ (k2 : Nat) (tw : Tr) (dw : List Bs), u = .int .i64 k2 ∧ o = st (S1 ++ wtext dw) ∧ Below w2.heap.size w2 wx ∧ tw.wf true ∧ CAt w2 tw gx k2 ∧ k2 + tw.len = ws.len ∧ tw.tot ≤ ws.tot ∧ dw ++ tw.pieces = ws.pieces ∧ dw.length = k2) (fun _ u _ => ws.len - (intOf u).toNat)
            case atStart => exact ⟨0, ws, [], rfl, by rw [show wtext [] = [] from rfl, List.append_nil], Below.refl _ _, HWT.out, HGX2.out, Nat.zero_add _, Nat.le_refl _, rfl, rfl⟩
            case round =>
              rename World => wi
              obtain ⟨k2, tw, dw, rfl, rfl, jb, jw, jc, jk, jt, jp, jd⟩ := hrel
              have JB := hid jb
              have JP := hid jp
              have JD := hid jd
              have jcr := jc.keep (w' := wi) (fun a v h => (jb.cell (p := a) (boxLt4 h)).trans h)
              have hS2 : (S1 ++ wtext dw).length ≤ 32000010 := by
                have q1 := wtext_le dw
                have q2 := HWS3.out
                rw [← jp, sum3_app] at q2
                rw [List.length_append]
                omega
              obtain ⟨S2, hS2e⟩ : ∃ S2, S1 ++ wtext dw = S2 := ⟨_, rfl⟩
              have HS2 := hid hS2e
              rw [hS2e] at hS2
              rw [hS2e]
              have hs2s := st_size S2
              have zz2 : wi.cell? ⟨bx, 2, none⟩ = some (.slice (some ⟨gx, 0, none⟩) ws.len cx) := (cell_block ((JB.out.block bx hlx).trans HBX.out) 2).trans rfl
              clear jb jp jd hS2e
              cases tw with
              | nil =>
                have hkI2 : ¬ (k2 : Int) < (ws.len : Int) := by simp [Tr.len] at jk; omega
                have HP := hid (show st (S2 ++ [93]) = st (Lib.join (dn ++ [91 :: (Lib.join ws.pieces [32, 124, 32] ++ [93])]) [32]) by
                  have e1 : dw = ws.pieces := by have := JP.out; simpa [Tr.pieces] using this
                  have e2 : ws.pieces ≠ [] := by
                    intro e
                    have := pieces_len ws
                    rw [e] at this
                    have h9 := HWL.out
                    simp at this
                    omega
                  rw [HS1.out, ← HS2.out, e1, wtext, if_neg e2, List.append_assoc]
                  rfl)
                clear jk jt jw jc
                go_upto_region 17 with fail
                rw [str_app S2 [93]]
                generalize S2 ++ [93] = S3 at HP ⊢
                go_wp2_with fail
                go_roundw
                case rel => exact ⟨k + 1, n, dn ++ [91 :: (Lib.join ws.pieces [32, 124, 32] ++ [93])], by go_num, HB2.out.trans (JB.out.mono HB2.out.size), HW.out, by rw [Nat.succ_mul]; exact HX.out, HKN.out, HTN.out, HP.out, by rw [List.append_assoc]; exact HPC.out, by rw [List.length_append, HDN.out]; rfl⟩
                case measure => simp [intOf]; omega
              | one no nm n2 => exact jw.elim
              | many ws2 n2 => exact jw.elim
              | way l n2 =>
                obtain ⟨⟨al, cl, p0, hcl, p1⟩, p3⟩ := jcr
                obtain ⟨hwl2, hwn2⟩ := jw
                have HL := hid (SAt.keep (w := wi) (w' := wi.drew) (fun _ _ h => h) ⟨al, cl, rfl, hcl, p1⟩)
                have P3 := hid jc.2
                have HWLl := hid hwl2
                have HWM := hid hwn2
                have hkI2 : (k2 : Int) < (ws.len : Int) := by simp [Tr.len] at jk; omega
                have hk20 : (0 : Int) ≤ (k2 : Int) := by omega
                have hkl2 : k2 < ws.len := by simp [Tr.len] at jk; omega
                have HKN2 := hid (show k2 + 1 + n2.len = ws.len by simp [Tr.len] at jk; omega)
                have htn2 : 1 + l.tot + n2.tot ≤ ws.tot := jt
                have HTN2 := hid (show n2.tot ≤ ws.tot by omega)
                have hl1 : l.tot < N := by omega
                have hl2 : l.tot ≤ 1000000 := by omega
                have hcl9 : (ctext l).length ≤ 16000000 := by
                  have q1 := sum3_le false l hwl2
                  have q2 := join_le [32] (by simp) l.pieces
                  unfold ctext
                  omega
                have hcls := st_size (ctext l)
                clear p1 p3 hwl2 hwn2 jk jt htn2 jc
                by_cases hk2z : k2 = 0
                · have hdw : dw = [] := List.eq_nil_of_length_eq_zero (by rw [JD.out]; exact hk2z)
                  subst hdw
                  subst hk2z
                  have hmn : min (0 : Int) 1 = 0 := by decide
                  go_upto_region 13 with fail
                  refine wpEnds.begin (fun _ => True) 9 (by kernel_rfl) trivial (fun hHeld => ?_)
                  refine wpEnds.take 0 10 (v := ?va00) rfl (by kernel_rfl) (by kernel_rfl) (by kernel_rfl) (by kernel_rfl) (by kernel_rfl) (fun _ _ _ h => h) (by kernel_rfl) hHeld (fun w' hSw => ?hya00) ?resta00
                  case hya00 => ((try dsimp only at hSw); go_simp; try with_reducible rfl)
                  case resta00 =>
                  (try simp only [Act.put, List.setIfInBounds_toArray, List.set_cons_zero, List.set_cons_succ])
                  refine wpEnds.take 1 10 (v := ?va01) rfl (by kernel_rfl) (by kernel_rfl) (by kernel_rfl) (by kernel_rfl) (by kernel_rfl) (fun _ _ _ h => h) (by kernel_rfl) hHeld (fun w' hSw => ?hya01) ?resta01
                  case hya01 => ((try dsimp only at hSw); go_simp; try with_reducible rfl)
                  case resta01 =>
                  (try simp only [Act.put, List.setIfInBounds_toArray, List.set_cons_zero, List.set_cons_succ])
                  refine wpEnds.take 2 10 (v := ?va02) rfl (by kernel_rfl) (by kernel_rfl) (by kernel_rfl) (by kernel_rfl) (by kernel_rfl) (fun _ _ _ h => h) (by kernel_rfl) hHeld (fun w' hSw => ?hya02) ?resta02
                  case hya02 => ((try dsimp only at hSw); go_simp; try with_reducible rfl)
                  case resta02 =>
                  (try simp only [Act.put, List.setIfInBounds_toArray, List.set_cons_zero, List.set_cons_succ])
                  refine wpEnds.take 3 10 (v := .int .i64 0) rfl (by kernel_rfl) (by kernel_rfl) (by kernel_rfl) (by kernel_rfl) (by kernel_rfl) (fun _ _ _ h => h) (by kernel_rfl) hHeld (fun w' hSw => ?hya03) ?resta03
                  case hya03 => ((try dsimp only at hSw); go_simp; try rw [hmn])
                  case resta03 =>
                  (try simp only [Act.put, List.setIfInBounds_toArray, List.set_cons_zero, List.set_cons_succ])
                  refine wpEnds.take 4 10 (v := .string ⟨#[91]⟩) rfl (by kernel_rfl) (by kernel_rfl) (by kernel_rfl) (by kernel_rfl) (by kernel_rfl) (fun _ _ _ h => h) (by kernel_rfl) hHeld (fun w' hSw => ?hya04) ?resta04
                  case hya04 => ((try dsimp only at hSw); go_simp; rw [idx20]; rfl)
                  case resta04 =>
                  (try simp only [Act.put, List.setIfInBounds_toArray, List.set_cons_zero, List.set_cons_succ])
                  refine wpEnds.take 5 10 (v := ?va05) rfl (by kernel_rfl) (by kernel_rfl) (by kernel_rfl) (by kernel_rfl) (by kernel_rfl) (fun _ _ _ h => h) (by kernel_rfl) hHeld (fun w' hSw => ?hya05) ?resta05
                  case hya05 => ((try dsimp only at hSw); go_simp; try with_reducible rfl)
                  case resta05 =>
                  (try simp only [Act.put, List.setIfInBounds_toArray, List.set_cons_zero, List.set_cons_succ])
                  refine wpEnds.one 6 (by kernel_rfl) rfl (fun K hK => ?_)
                  go_simp
                  (with_reducible refine (IH.out l hl1 hl2 HWLl.out _ wi.drew HL.out).mono ?_)
                  rintro e w5 ⟨rfl, hb5⟩
                  have HB5 := hid (JB.out.trans (((Below.refl _ _).drew.trans hb5).mono JB.out.size))
                  clear hb5
                  refine hK.out _ _ trivial ?_
                  clear hK K
                  (try simp only [Act.put, List.setIfInBounds_toArray, List.set_cons_zero, List.set_cons_succ])
                  refine wpEnds.one 7 (by kernel_rfl) rfl (fun K hK => ?_)
                  have hq70 : ¬ 9223372036854775807 < 1 + (ctext l).length := by omega
                  have hq71 : ¬ 9223372036854775807 < 3 + (ctext l).length := by omega
                  go_simp
                  clear hq70 hq71
                  rw [show (⟨#[91]⟩ : ByteArray) ++ ⟨(ctext l).toArray⟩ = ⟨([91] ++ ctext l).toArray⟩ from str_app [91] (ctext l)]
                  have hq8 : ([91] ++ ctext l).length ≤ 16000010 := by rw [List.length_append]; simp; omega
                  have hq8s := st_size ([91] ++ ctext l)
                  obtain ⟨S4, hS4⟩ : ∃ S4, [91] ++ ctext l = S4 := ⟨_, rfl⟩
                  have HS4 := hid hS4
                  rw [hS4] at hq8 hq8s
                  rw [hS4]
                  clear hS4
                  refine hK.out _ _ trivial ?_
                  clear hK K
                  (try simp only [Act.put, List.setIfInBounds_toArray, List.set_cons_zero, List.set_cons_succ])
                  refine wpEnds.one 8 (by kernel_rfl) rfl (fun K hK => ?_)
                  have hq70 : ¬ 9223372036854775807 < S2.length + S4.length := by omega
                  go_simp
                  clear hq70
                  rw [str_app S2 S4]
                  have HP := hid (show st (S2 ++ S4) = st (S1 ++ wtext (([] : List Bs) ++ [ctext l])) by
                    rw [wtext_snoc, ← HS2.out, ← HS4.out, if_pos rfl, List.append_assoc])
                  generalize S2 ++ S4 = S5 at HP ⊢
                  refine hK.out _ _ trivial ?_
                  clear hK K
                  (try simp only [Act.put, List.setIfInBounds_toArray, List.set_cons_zero, List.set_cons_succ])
                  refine wpEnds.last 9 (by kernel_rfl) (by kernel_rfl) rfl (fun K hK => ?_)
                  go_simp
                  refine hK.out _ _ ?_
                  clear hK K
                  (try simp only [Act.put, List.setIfInBounds_toArray, List.set_cons_zero, List.set_cons_succ])
                  go_wp2_with fail
                  go_roundw
                  case rel => exact ⟨0 + 1, n2, ([] : List Bs) ++ [ctext l], by go_num, HP.out, HB5.out, HWM.out, P3.out, HKN2.out, HTN2.out, by rw [List.append_assoc]; exact JP.out, by rw [List.length_append, JD.out]; rfl⟩
                  case measure => simp [intOf]; omega
                · have hdw : dw ≠ [] := fun e => hk2z (by rw [← JD.out, e]; rfl)
                  have hk2m : (1 : Int) ≤ (k2 : Int) := by omega
                  have hmn : min (k2 : Int) 1 = 1 := by omega
                  go_upto_region 13 with fail
                  refine wpEnds.begin (fun _ => True) 9 (by kernel_rfl) trivial (fun hHeld => ?_)
                  refine wpEnds.take 0 10 (v := ?va10) rfl (by kernel_rfl) (by kernel_rfl) (by kernel_rfl) (by kernel_rfl) (by kernel_rfl) (fun _ _ _ h => h) (by kernel_rfl) hHeld (fun w' hSw => ?hya10) ?resta10
                  case hya10 => ((try dsimp only at hSw); go_simp; try with_reducible rfl)
                  case resta10 =>
                  (try simp only [Act.put, List.setIfInBounds_toArray, List.set_cons_zero, List.set_cons_succ])
                  refine wpEnds.take 1 10 (v := ?va11) rfl (by kernel_rfl) (by kernel_rfl) (by kernel_rfl) (by kernel_rfl) (by kernel_rfl) (fun _ _ _ h => h) (by kernel_rfl) hHeld (fun w' hSw => ?hya11) ?resta11
                  case hya11 => ((try dsimp only at hSw); go_simp; try with_reducible rfl)
                  case resta11 =>
                  (try simp only [Act.put, List.setIfInBounds_toArray, List.set_cons_zero, List.set_cons_succ])
                  refine wpEnds.take 2 10 (v := ?va12) rfl (by kernel_rfl) (by kernel_rfl) (by kernel_rfl) (by kernel_rfl) (by kernel_rfl) (fun _ _ _ h => h) (by kernel_rfl) hHeld (fun w' hSw => ?hya12) ?resta12
                  case hya12 => ((try dsimp only at hSw); go_simp; try with_reducible rfl)
                  case resta12 =>
                  (try simp only [Act.put, List.setIfInBounds_toArray, List.set_cons_zero, List.set_cons_succ])
                  refine wpEnds.take 3 10 (v := .int .i64 1) rfl (by kernel_rfl) (by kernel_rfl) (by kernel_rfl) (by kernel_rfl) (by kernel_rfl) (fun _ _ _ h => h) (by kernel_rfl) hHeld (fun w' hSw => ?hya13) ?resta13
                  case hya13 => ((try dsimp only at hSw); go_simp; try rw [hmn])
                  case resta13 =>
                  (try simp only [Act.put, List.setIfInBounds_toArray, List.set_cons_zero, List.set_cons_succ])
                  refine wpEnds.take 4 10 (v := .string ⟨#[32, 124, 32]⟩) rfl (by kernel_rfl) (by kernel_rfl) (by kernel_rfl) (by kernel_rfl) (by kernel_rfl) (fun _ _ _ h => h) (by kernel_rfl) hHeld (fun w' hSw => ?hya14) ?resta14
                  case hya14 => ((try dsimp only at hSw); go_simp; rw [idx21]; rfl)
                  case resta14 =>
                  (try simp only [Act.put, List.setIfInBounds_toArray, List.set_cons_zero, List.set_cons_succ])
                  refine wpEnds.take 5 10 (v := ?va15) rfl (by kernel_rfl) (by kernel_rfl) (by kernel_rfl) (by kernel_rfl) (by kernel_rfl) (fun _ _ _ h => h) (by kernel_rfl) hHeld (fun w' hSw => ?hya15) ?resta15
                  case hya15 => ((try dsimp only at hSw); go_simp; try with_reducible rfl)
                  case resta15 =>
                  (try simp only [Act.put, List.setIfInBounds_toArray, List.set_cons_zero, List.set_cons_succ])
                  refine wpEnds.one 6 (by kernel_rfl) rfl (fun K hK => ?_)
                  go_simp
                  (with_reducible refine (IH.out l hl1 hl2 HWLl.out _ wi.drew HL.out).mono ?_)
                  rintro e w5 ⟨rfl, hb5⟩
                  have HB5 := hid (JB.out.trans (((Below.refl _ _).drew.trans hb5).mono JB.out.size))
                  clear hb5
                  refine hK.out _ _ trivial ?_
                  clear hK K
                  (try simp only [Act.put, List.setIfInBounds_toArray, List.set_cons_zero, List.set_cons_succ])
                  refine wpEnds.one 7 (by kernel_rfl) rfl (fun K hK => ?_)
                  have hq70 : ¬ 9223372036854775807 < 1 + (ctext l).length := by omega
                  have hq71 : ¬ 9223372036854775807 < 3 + (ctext l).length := by omega
                  go_simp
                  clear hq70 hq71
                  rw [show (⟨#[32, 124, 32]⟩ : ByteArray) ++ ⟨(ctext l).toArray⟩ = ⟨([32, 124, 32] ++ ctext l).toArray⟩ from str_app [32, 124, 32] (ctext l)]
                  have hq8 : ([32, 124, 32] ++ ctext l).length ≤ 16000010 := by rw [List.length_append]; simp; omega
                  have hq8s := st_size ([32, 124, 32] ++ ctext l)
                  obtain ⟨S4, hS4⟩ : ∃ S4, [32, 124, 32] ++ ctext l = S4 := ⟨_, rfl⟩
                  have HS4 := hid hS4
                  rw [hS4] at hq8 hq8s
                  rw [hS4]
                  clear hS4
                  refine hK.out _ _ trivial ?_
                  clear hK K
                  (try simp only [Act.put, List.setIfInBounds_toArray, List.set_cons_zero, List.set_cons_succ])
                  refine wpEnds.one 8 (by kernel_rfl) rfl (fun K hK => ?_)
                  have hq70 : ¬ 9223372036854775807 < S2.length + S4.length := by omega
                  go_simp
                  clear hq70
                  rw [str_app S2 S4]
                  have HP := hid (show st (S2 ++ S4) = st (S1 ++ wtext (dw ++ [ctext l])) by
                    rw [wtext_snoc, ← HS2.out, ← HS4.out, if_neg hdw, List.append_assoc])
                  generalize S2 ++ S4 = S5 at HP ⊢
                  refine hK.out _ _ trivial ?_
                  clear hK K
                  (try simp only [Act.put, List.setIfInBounds_toArray, List.set_cons_zero, List.set_cons_succ])
                  refine wpEnds.last 9 (by kernel_rfl) (by kernel_rfl) rfl (fun K hK => ?_)
                  go_simp
                  refine hK.out _ _ ?_
                  clear hK K
                  (try simp only [Act.put, List.setIfInBounds_toArray, List.set_cons_zero, List.set_cons_succ])
                  go_wp2_with fail
                  go_roundw
                  case rel => exact ⟨k2 + 1, n2, dw ++ [ctext l], by go_num, HP.out, HB5.out, HWM.out, P3.out, HKN2.out, HTN2.out, by rw [List.append_assoc]; exact JP.out, by rw [List.length_append, JD.out]; rfl⟩
                  case measure => simp [intOf]; omega
          · have hkz : (0 : Int) < (k : Int) := by omega
            have HS1 := hid (show ∀ p, Lib.join (dn ++ [p]) [32] = (S ++ [32]) ++ p by
              intro p
              have hd0 : dn ≠ [] := fun e => hkz0 (by rw [← HDN.out, e]; rfl)
              rw [join_snoc, if_neg hd0, HS.out])
            have hs1 : (S ++ [32]).length ≤ 16000001 := by rw [List.length_append]; simp; omega
            have hss := st_size S
            have hkd : decide (0 < k) = true := decide_eq_true (by omega)
            clear hkz0
            go_upto_region 7 with fail
            (try rw [hkd])
            clear hkd
            have hE := str_app S [32]
            rw [show (⟨S.toArray⟩ : ByteArray) ++ ⟨#[32]⟩ = ⟨(S ++ [32]).toArray⟩ from hE]
            clear hE hss
            obtain ⟨S1, hS1⟩ : ∃ S1, S ++ [32] = S1 := ⟨_, rfl⟩
            rw [hS1] at HS1 hs1
            rw [hS1]
            clear hS1
            have h2 : Below wr.heap.size wr (wr.alloc (.cells #[st [], .bool false, .slice (some ⟨gx, 0, none⟩) ws.len cx] 80)) := (Below.refl _ _).alloc (Nat.le_refl _) _
            have hbx : (wr.alloc (.cells #[st [], .bool false, .slice (some ⟨gx, 0, none⟩) ws.len cx] 80)).heap[wr.heap.size]? = some (.cells #[st [], .bool false, .slice (some ⟨gx, 0, none⟩) ws.len cx] 80 (0, 0)) := heap_alloc_new wr _
            obtain ⟨bx, hbxe⟩ : ∃ bx, wr.heap.size = bx := ⟨_, rfl⟩
            have HB2 := hid (HB.out.trans (h2.mono HB.out.size))
            have HWR := hid h2
            rw [hbxe] at hbx
            rw [hbxe]
            generalize wr.alloc _ = w2 at hbx HB2 HWR ⊢
            have HBX := hid hbx
            have z0 : w2.cell? ⟨bx, 0, none⟩ = some (st []) := (cell_block hbx 0).trans rfl
            have z1 : w2.cell? ⟨bx, 1, none⟩ = some (.bool false) := (cell_block hbx 1).trans rfl
            have z2 : w2.cell? ⟨bx, 2, none⟩ = some (.slice (some ⟨gx, 0, none⟩) ws.len cx) := (cell_block hbx 2).trans rfl
            have hlx := boxLt hbx
            have hs1s := st_size S1
            clear h2 hbx hbxe
            go_upto_region 10 with fail
            rw [str_app S1 [], List.append_nil]
            have HGX2 := hid (HGX.out.keep (w' := w2) (fun a v h => (HWR.out.cell (p := a) (boxLt4 h)).trans h))
            go_upto_region 11 with fail
            clear z0 z1 z2 hs1s
            go_loopw [3, 30] (fun o u wx => ∃ (k2 : Nat) (tw : Tr) (dw : List Bs), u = .int .i64 k2 ∧ o = st (S1 ++ wtext dw) ∧ Below w2.heap.size w2 wx ∧ tw.wf true ∧ CAt w2 tw gx k2 ∧ k2 + tw.len = ws.len ∧ tw.tot ≤ ws.tot ∧ dw ++ tw.pieces = ws.pieces ∧ dw.length = k2) (fun _ u _ => ws.len - (intOf u).toNat)
            case atStart => exact ⟨0, ws, [], rfl, by rw [show wtext [] = [] from rfl, List.append_nil], Below.refl _ _, HWT.out, HGX2.out, Nat.zero_add _, Nat.le_refl _, rfl, rfl⟩
            case round =>
              rename World => wi
              obtain ⟨k2, tw, dw, rfl, rfl, jb, jw, jc, jk, jt, jp, jd⟩ := hrel
              have JB := hid jb
              have JP := hid jp
              have JD := hid jd
              have jcr := jc.keep (w' := wi) (fun a v h => (jb.cell (p := a) (boxLt4 h)).trans h)
              have hS2 : (S1 ++ wtext dw).length ≤ 32000010 := by
                have q1 := wtext_le dw
                have q2 := HWS3.out
                rw [← jp, sum3_app] at q2
                rw [List.length_append]
                omega
              obtain ⟨S2, hS2e⟩ : ∃ S2, S1 ++ wtext dw = S2 := ⟨_, rfl⟩
              have HS2 := hid hS2e
              rw [hS2e] at hS2
              rw [hS2e]
              have hs2s := st_size S2
              have zz2 : wi.cell? ⟨bx, 2, none⟩ = some (.slice (some ⟨gx, 0, none⟩) ws.len cx) := (cell_block ((JB.out.block bx hlx).trans HBX.out) 2).trans rfl
              clear jb jp jd hS2e
              cases tw with
              | nil =>
                have hkI2 : ¬ (k2 : Int) < (ws.len : Int) := by simp [Tr.len] at jk; omega
                have HP := hid (show st (S2 ++ [93]) = st (Lib.join (dn ++ [91 :: (Lib.join ws.pieces [32, 124, 32] ++ [93])]) [32]) by
                  have e1 : dw = ws.pieces := by have := JP.out; simpa [Tr.pieces] using this
                  have e2 : ws.pieces ≠ [] := by
                    intro e
                    have := pieces_len ws
                    rw [e] at this
                    have h9 := HWL.out
                    simp at this
                    omega
                  rw [HS1.out, ← HS2.out, e1, wtext, if_neg e2, List.append_assoc]
                  rfl)
                clear jk jt jw jc
                go_upto_region 17 with fail
                rw [str_app S2 [93]]
                generalize S2 ++ [93] = S3 at HP ⊢
                go_wp2_with fail
                go_roundw
                case rel => exact ⟨k + 1, n, dn ++ [91 :: (Lib.join ws.pieces [32, 124, 32] ++ [93])], by go_num, HB2.out.trans (JB.out.mono HB2.out.size), HW.out, by rw [Nat.succ_mul]; exact HX.out, HKN.out, HTN.out, HP.out, by rw [List.append_assoc]; exact HPC.out, by rw [List.length_append, HDN.out]; rfl⟩
                case measure => simp [intOf]; omega
              | one no nm n2 => exact jw.elim
              | many ws2 n2 => exact jw.elim
              | way l n2 =>
                obtain ⟨⟨al, cl, p0, hcl, p1⟩, p3⟩ := jcr
                obtain ⟨hwl2, hwn2⟩ := jw
                have HL := hid (SAt.keep (w := wi) (w' := wi.drew) (fun _ _ h => h) ⟨al, cl, rfl, hcl, p1⟩)
                have P3 := hid jc.2
                have HWLl := hid hwl2
                have HWM := hid hwn2
                have hkI2 : (k2 : Int) < (ws.len : Int) := by simp [Tr.len] at jk; omega
                have hk20 : (0 : Int) ≤ (k2 : Int) := by omega
                have hkl2 : k2 < ws.len := by simp [Tr.len] at jk; omega
                have HKN2 := hid (show k2 + 1 + n2.len = ws.len by simp [Tr.len] at jk; omega)
                have htn2 : 1 + l.tot + n2.tot ≤ ws.tot := jt
                have HTN2 := hid (show n2.tot ≤ ws.tot by omega)
                have hl1 : l.tot < N := by omega
                have hl2 : l.tot ≤ 1000000 := by omega
                have hcl9 : (ctext l).length ≤ 16000000 := by
                  have q1 := sum3_le false l hwl2
                  have q2 := join_le [32] (by simp) l.pieces
                  unfold ctext
                  omega
                have hcls := st_size (ctext l)
                clear p1 p3 hwl2 hwn2 jk jt htn2 jc
                by_cases hk2z : k2 = 0
                · have hdw : dw = [] := List.eq_nil_of_length_eq_zero (by rw [JD.out]; exact hk2z)
                  subst hdw
                  subst hk2z
                  have hmn : min (0 : Int) 1 = 0 := by decide
                  go_upto_region 13 with fail
                  refine wpEnds.begin (fun _ => True) 9 (by kernel_rfl) trivial (fun hHeld => ?_)
                  refine wpEnds.take 0 10 (v := ?vb00) rfl (by kernel_rfl) (by kernel_rfl) (by kernel_rfl) (by kernel_rfl) (by kernel_rfl) (fun _ _ _ h => h) (by kernel_rfl) hHeld (fun w' hSw => ?hyb00) ?restb00
                  case hyb00 => ((try dsimp only at hSw); go_simp; try with_reducible rfl)
                  case restb00 =>
                  (try simp only [Act.put, List.setIfInBounds_toArray, List.set_cons_zero, List.set_cons_succ])
                  refine wpEnds.take 1 10 (v := ?vb01) rfl (by kernel_rfl) (by kernel_rfl) (by kernel_rfl) (by kernel_rfl) (by kernel_rfl) (fun _ _ _ h => h) (by kernel_rfl) hHeld (fun w' hSw => ?hyb01) ?restb01
                  case hyb01 => ((try dsimp only at hSw); go_simp; try with_reducible rfl)
                  case restb01 =>
                  (try simp only [Act.put, List.setIfInBounds_toArray, List.set_cons_zero, List.set_cons_succ])
                  refine wpEnds.take 2 10 (v := ?vb02) rfl (by kernel_rfl) (by kernel_rfl) (by kernel_rfl) (by kernel_rfl) (by kernel_rfl) (fun _ _ _ h => h) (by kernel_rfl) hHeld (fun w' hSw => ?hyb02) ?restb02
                  case hyb02 => ((try dsimp only at hSw); go_simp; try with_reducible rfl)
                  case restb02 =>
                  (try simp only [Act.put, List.setIfInBounds_toArray, List.set_cons_zero, List.set_cons_succ])
                  refine wpEnds.take 3 10 (v := .int .i64 0) rfl (by kernel_rfl) (by kernel_rfl) (by kernel_rfl) (by kernel_rfl) (by kernel_rfl) (fun _ _ _ h => h) (by kernel_rfl) hHeld (fun w' hSw => ?hyb03) ?restb03
                  case hyb03 => ((try dsimp only at hSw); go_simp; try rw [hmn])
                  case restb03 =>
                  (try simp only [Act.put, List.setIfInBounds_toArray, List.set_cons_zero, List.set_cons_succ])
                  refine wpEnds.take 4 10 (v := .string ⟨#[91]⟩) rfl (by kernel_rfl) (by kernel_rfl) (by kernel_rfl) (by kernel_rfl) (by kernel_rfl) (fun _ _ _ h => h) (by kernel_rfl) hHeld (fun w' hSw => ?hyb04) ?restb04
                  case hyb04 => ((try dsimp only at hSw); go_simp; rw [idx20]; rfl)
                  case restb04 =>
                  (try simp only [Act.put, List.setIfInBounds_toArray, List.set_cons_zero, List.set_cons_succ])
                  refine wpEnds.take 5 10 (v := ?vb05) rfl (by kernel_rfl) (by kernel_rfl) (by kernel_rfl) (by kernel_rfl) (by kernel_rfl) (fun _ _ _ h => h) (by kernel_rfl) hHeld (fun w' hSw => ?hyb05) ?restb05
                  case hyb05 => ((try dsimp only at hSw); go_simp; try with_reducible rfl)
                  case restb05 =>
                  (try simp only [Act.put, List.setIfInBounds_toArray, List.set_cons_zero, List.set_cons_succ])
                  refine wpEnds.one 6 (by kernel_rfl) rfl (fun K hK => ?_)
                  go_simp
                  (with_reducible refine (IH.out l hl1 hl2 HWLl.out _ wi.drew HL.out).mono ?_)
                  rintro e w5 ⟨rfl, hb5⟩
                  have HB5 := hid (JB.out.trans (((Below.refl _ _).drew.trans hb5).mono JB.out.size))
                  clear hb5
                  refine hK.out _ _ trivial ?_
                  clear hK K
                  (try simp only [Act.put, List.setIfInBounds_toArray, List.set_cons_zero, List.set_cons_succ])
                  refine wpEnds.one 7 (by kernel_rfl) rfl (fun K hK => ?_)
                  have hq70 : ¬ 9223372036854775807 < 1 + (ctext l).length := by omega
                  have hq71 : ¬ 9223372036854775807 < 3 + (ctext l).length := by omega
                  go_simp
                  clear hq70 hq71
                  rw [show (⟨#[91]⟩ : ByteArray) ++ ⟨(ctext l).toArray⟩ = ⟨([91] ++ ctext l).toArray⟩ from str_app [91] (ctext l)]
                  have hq8 : ([91] ++ ctext l).length ≤ 16000010 := by rw [List.length_append]; simp; omega
                  have hq8s := st_size ([91] ++ ctext l)
                  obtain ⟨S4, hS4⟩ : ∃ S4, [91] ++ ctext l = S4 := ⟨_, rfl⟩
                  have HS4 := hid hS4
                  rw [hS4] at hq8 hq8s
                  rw [hS4]
                  clear hS4
                  refine hK.out _ _ trivial ?_
                  clear hK K
                  (try simp only [Act.put, List.setIfInBounds_toArray, List.set_cons_zero, List.set_cons_succ])
                  refine wpEnds.one 8 (by kernel_rfl) rfl (fun K hK => ?_)
                  have hq70 : ¬ 9223372036854775807 < S2.length + S4.length := by omega
                  go_simp
                  clear hq70
                  rw [str_app S2 S4]
                  have HP := hid (show st (S2 ++ S4) = st (S1 ++ wtext (([] : List Bs) ++ [ctext l])) by
                    rw [wtext_snoc, ← HS2.out, ← HS4.out, if_pos rfl, List.append_assoc])
                  generalize S2 ++ S4 = S5 at HP ⊢
                  refine hK.out _ _ trivial ?_
                  clear hK K
                  (try simp only [Act.put, List.setIfInBounds_toArray, List.set_cons_zero, List.set_cons_succ])
                  refine wpEnds.last 9 (by kernel_rfl) (by kernel_rfl) rfl (fun K hK => ?_)
                  go_simp
                  refine hK.out _ _ ?_
                  clear hK K
                  (try simp only [Act.put, List.setIfInBounds_toArray, List.set_cons_zero, List.set_cons_succ])
                  go_wp2_with fail
                  go_roundw
                  case rel => exact ⟨0 + 1, n2, ([] : List Bs) ++ [ctext l], by go_num, HP.out, HB5.out, HWM.out, P3.out, HKN2.out, HTN2.out, by rw [List.append_assoc]; exact JP.out, by rw [List.length_append, JD.out]; rfl⟩
                  case measure => simp [intOf]; omega
                · have hdw : dw ≠ [] := fun e => hk2z (by rw [← JD.out, e]; rfl)
                  have hk2m : (1 : Int) ≤ (k2 : Int) := by omega
                  have hmn : min (k2 : Int) 1 = 1 := by omega
                  go_upto_region 13 with fail
                  refine wpEnds.begin (fun _ => True) 9 (by kernel_rfl) trivial (fun hHeld => ?_)
                  refine wpEnds.take 0 10 (v := ?vb10) rfl (by kernel_rfl) (by kernel_rfl) (by kernel_rfl) (by kernel_rfl) (by kernel_rfl) (fun _ _ _ h => h) (by kernel_rfl) hHeld (fun w' hSw => ?hyb10) ?restb10
                  case hyb10 => ((try dsimp only at hSw); go_simp; try with_reducible rfl)
                  case restb10 =>
                  (try simp only [Act.put, List.setIfInBounds_toArray, List.set_cons_zero, List.set_cons_succ])
                  refine wpEnds.take 1 10 (v := ?vb11) rfl (by kernel_rfl) (by kernel_rfl) (by kernel_rfl) (by kernel_rfl) (by kernel_rfl) (fun _ _ _ h => h) (by kernel_rfl) hHeld (fun w' hSw => ?hyb11) ?restb11
                  case hyb11 => ((try dsimp only at hSw); go_simp; try with_reducible rfl)
                  case restb11 =>
                  (try simp only [Act.put, List.setIfInBounds_toArray, List.set_cons_zero, List.set_cons_succ])
                  refine wpEnds.take 2 10 (v := ?vb12) rfl (by kernel_rfl) (by kernel_rfl) (by kernel_rfl) (by kernel_rfl) (by kernel_rfl) (fun _ _ _ h => h) (by kernel_rfl) hHeld (fun w' hSw => ?hyb12) ?restb12
                  case hyb12 => ((try dsimp only at hSw); go_simp; try with_reducible rfl)
                  case restb12 =>
                  (try simp only [Act.put, List.setIfInBounds_toArray, List.set_cons_zero, List.set_cons_succ])
                  refine wpEnds.take 3 10 (v := .int .i64 1) rfl (by kernel_rfl) (by kernel_rfl) (by kernel_rfl) (by kernel_rfl) (by kernel_rfl) (fun _ _ _ h => h) (by kernel_rfl) hHeld (fun w' hSw => ?hyb13) ?restb13
                  case hyb13 => ((try dsimp only at hSw); go_simp; try rw [hmn])
                  case restb13 =>
                  (try simp only [Act.put, List.setIfInBounds_toArray, List.set_cons_zero, List.set_cons_succ])
                  refine wpEnds.take 4 10 (v := .string ⟨#[32, 124, 32]⟩) rfl (by kernel_rfl) (by kernel_rfl) (by kernel_rfl) (by kernel_rfl) (by kernel_rfl) (fun _ _ _ h => h) (by kernel_rfl) hHeld (fun w' hSw => ?hyb14) ?restb14
                  case hyb14 => ((try dsimp only at hSw); go_simp; rw [idx21]; rfl)
                  case restb14 =>
                  (try simp only [Act.put, List.setIfInBounds_toArray, List.set_cons_zero, List.set_cons_succ])
                  refine wpEnds.take 5 10 (v := ?vb15) rfl (by kernel_rfl) (by kernel_rfl) (by kernel_rfl) (by kernel_rfl) (by kernel_rfl) (fun _ _ _ h => h) (by kernel_rfl) hHeld (fun w' hSw => ?hyb15) ?restb15
                  case hyb15 => ((try dsimp only at hSw); go_simp; try with_reducible rfl)
                  case restb15 =>
                  (try simp only [Act.put, List.setIfInBounds_toArray, List.set_cons_zero, List.set_cons_succ])
                  refine wpEnds.one 6 (by kernel_rfl) rfl (fun K hK => ?_)
                  go_simp
                  (with_reducible refine (IH.out l hl1 hl2 HWLl.out _ wi.drew HL.out).mono ?_)
                  rintro e w5 ⟨rfl, hb5⟩
                  have HB5 := hid (JB.out.trans (((Below.refl _ _).drew.trans hb5).mono JB.out.size))
                  clear hb5
                  refine hK.out _ _ trivial ?_
                  clear hK K
                  (try simp only [Act.put, List.setIfInBounds_toArray, List.set_cons_zero, List.set_cons_succ])
                  refine wpEnds.one 7 (by kernel_rfl) rfl (fun K hK => ?_)
                  have hq70 : ¬ 9223372036854775807 < 1 + (ctext l).length := by omega
                  have hq71 : ¬ 9223372036854775807 < 3 + (ctext l).length := by omega
                  go_simp
                  clear hq70 hq71
                  rw [show (⟨#[32, 124, 32]⟩ : ByteArray) ++ ⟨(ctext l).toArray⟩ = ⟨([32, 124, 32] ++ ctext l).toArray⟩ from str_app [32, 124, 32] (ctext l)]
                  have hq8 : ([32, 124, 32] ++ ctext l).length ≤ 16000010 := by rw [List.length_append]; simp; omega
                  have hq8s := st_size ([32, 124, 32] ++ ctext l)
                  obtain ⟨S4, hS4⟩ : ∃ S4, [32, 124, 32] ++ ctext l = S4 := ⟨_, rfl⟩
                  have HS4 := hid hS4
                  rw [hS4] at hq8 hq8s
                  rw [hS4]
                  clear hS4
                  refine hK.out _ _ trivial ?_
                  clear hK K
                  (try simp only [Act.put, List.setIfInBounds_toArray, List.set_cons_zero, List.set_cons_succ])
                  refine wpEnds.one 8 (by kernel_rfl) rfl (fun K hK => ?_)
                  have hq70 : ¬ 9223372036854775807 < S2.length + S4.length := by omega
                  go_simp
                  clear hq70
                  rw [str_app S2 S4]
                  have HP := hid (show st (S2 ++ S4) = st (S1 ++ wtext (dw ++ [ctext l])) by
                    rw [wtext_snoc, ← HS2.out, ← HS4.out, if_neg hdw, List.append_assoc])
                  generalize S2 ++ S4 = S5 at HP ⊢
                  refine hK.out _ _ trivial ?_
                  clear hK K
                  (try simp only [Act.put, List.setIfInBounds_toArray, List.set_cons_zero, List.set_cons_succ])
                  refine wpEnds.last 9 (by kernel_rfl) (by kernel_rfl) rfl (fun K hK => ?_)
                  go_simp
                  refine hK.out _ _ ?_
                  clear hK K
                  (try simp only [Act.put, List.setIfInBounds_toArray, List.set_cons_zero, List.set_cons_succ])
                  go_wp2_with fail
                  go_roundw
                  case rel => exact ⟨k2 + 1, n2, dw ++ [ctext l], by go_num, HP.out, HB5.out, HWM.out, P3.out, HKN2.out, HTN2.out, by rw [List.append_assoc]; exact JP.out, by rw [List.length_append, JD.out]; rfl⟩
                  case measure => simp [intOf]; omega
        | way l n => exact hw1.elim
end Go.Proofs.YtlaeflpddehipabGreatDoor

/- Cells in memory, to be read alone; sameCells. -/
import Derived.Test.YtlaeflpddehipabGreatDoorRfRungs
import Derived.BigQuiet
import Derived.Deep.QuietTactic
set_option linter.unusedVariables false
set_option linter.unusedSimpArgs false
namespace Go.Proofs.YtlaeflpddehipabGreatDoor
open Go.RowKit
attribute [local go_sem ↓] Go.wp_at_zero Go.wp_at_succ

/-- Cells (false) or ways (true). -/
def Tr.wf : Bool → Tr → Prop
  | _, .nil => True
  | false, .one _ nm n => nm.length ≤ 12 ∧ n.wf false
  | false, .many ws n => (∃ l m, ws = .way l m) ∧ ws.wf true ∧ n.wf false
  | true, .way l n => l.wf false ∧ n.wf true
  | _, _ => False
theorem PWays.wf {sub : Bs → Out → Prop} (hs : ∀ s t s', sub s (.ok t s') → t.wf false) {s : Bs} {r : Out} (h : PWays sub s r) : ∀ t s', r = .ok t s' → t.wf true := by
  induction h with
  | done s h => rintro t s' ⟨⟩; simp [Tr.wf]
  | bad s t e h hs => rintro t s' ⟨⟩
  | more s t s1 l r h hsub hr ih =>
    intro t' s' e
    cases r with
    | bad e' => cases e
    | ok t1 s2 => cases e; exact ⟨hs _ _ _ hsub, ih _ _ rfl⟩
theorem PRest.wf {sub : Bs → Out → Prop} (hs : ∀ s t s', sub s (.ok t s') → t.wf false) {s : Bs} {r : Out} (h : PRest sub s r) : ∀ t s', r = .ok t s' → t.wf false := by
  induction h with
  | done s h => rintro t s' ⟨⟩; simp [Tr.wf]
  | subBad => rintro t s' ⟨⟩
  | waysBad => rintro t s' ⟨⟩
  | closeBad => rintro t s' ⟨⟩
  | many s t s1 s2 s3 l ws r h hsub hw h2 hr ih =>
    intro t' s' e
    cases r with
    | bad e' => cases e
    | ok t1 s4 => cases e; exact ⟨⟨_, _, rfl⟩, ⟨hs _ _ _ hsub, hw.wf hs _ _ rfl⟩, ih _ _ rfl⟩
  | nameBad => rintro t s' ⟨⟩
  | one s u no r h hg hr ih =>
    intro t' s' e
    cases r with
    | bad e' => cases e
    | ok t1 s4 =>
      cases e
      exact ⟨goodLen hg, ih _ _ rfl⟩
theorem PC.wf : ∀ k s t s', PC k s (.ok t s') → t.wf false
  | 0, s, t, s', h => by cases h
  | k + 1, s, t, s', h => PRest.wf (fun s t s' => PC.wf k s t s') h _ _ rfl
/-- Cells (ways) at a place. -/
def CAt (w : World) : Tr → Nat → Nat → Prop
  | .nil, _, _ => True
  | .one no nm n, g, o => w.cell? ⟨g, o, none⟩ = some (st nm) ∧ w.cell? ⟨g, o + 1, none⟩ = some (.bool no) ∧ w.cell? ⟨g, o + 2, none⟩ = some (.slice none 0 0) ∧ CAt w n g (o + 3)
  | .many ws n, g, o => w.cell? ⟨g, o, none⟩ = some (st []) ∧ w.cell? ⟨g, o + 1, none⟩ = some (.bool false) ∧ (∃ a c, w.cell? ⟨g, o + 2, none⟩ = some (.slice a ws.len c) ∧ ws.len ≤ c ∧ (ws.len = 0 ∨ ∃ g', a = some ⟨g', 0, none⟩ ∧ CAt w ws g' 0)) ∧ CAt w n g (o + 3)
  | .way l n, g, o => (∃ a c, w.cell? ⟨g, o, none⟩ = some (.slice a l.len c) ∧ l.len ≤ c ∧ (l.len = 0 ∨ ∃ g', a = some ⟨g', 0, none⟩ ∧ CAt w l g' 0)) ∧ CAt w n g (o + 1)
def SAt (w : World) (t : Tr) (v : Value) : Prop := ∃ a c, v = .slice a t.len c ∧ t.len ≤ c ∧ (t.len = 0 ∨ ∃ g, a = some ⟨g, 0, none⟩ ∧ CAt w t g 0)
theorem CAt.keep {w w' : World} (h : ∀ (a : Addr) (v : Value), w.cell? a = some v → w'.cell? a = some v) : ∀ {t : Tr} {g o : Nat}, CAt w t g o → CAt w' t g o
  | .nil, _, _, _ => trivial
  | .one no nm n, _, _, ⟨h1, h2, h3, h4⟩ => ⟨h _ _ h1, h _ _ h2, h _ _ h3, CAt.keep h h4⟩
  | .many ws n, _, _, ⟨h1, h2, ⟨a, c, h3, hc, h5⟩, h4⟩ => ⟨h _ _ h1, h _ _ h2, ⟨a, c, h _ _ h3, hc, h5.imp id fun ⟨g', e, hg⟩ => ⟨g', e, CAt.keep h hg⟩⟩, CAt.keep h h4⟩
  | .way l n, _, _, ⟨⟨a, c, h3, hc, h5⟩, h4⟩ => ⟨⟨a, c, h _ _ h3, hc, h5.imp id fun ⟨g', e, hg⟩ => ⟨g', e, CAt.keep h hg⟩⟩, CAt.keep h h4⟩
theorem SAt.keep {w w' : World} (h : ∀ (a : Addr) (v : Value), w.cell? a = some v → w'.cell? a = some v) {t : Tr} {v : Value} (hs : SAt w t v) : SAt w' t v := by
  obtain ⟨a, c, e, hc, h5⟩ := hs
  exact ⟨a, c, e, hc, h5.imp id fun ⟨g', e, hg⟩ => ⟨g', e, hg.keep h⟩⟩
theorem SAt.below {w w' : World} {t : Tr} {v : Value} (hs : SAt w t v) (hb : Below w.heap.size w w') : SAt w' t v := hs.keep fun a v h => (hb.cell (boxLt4 h)).trans h
theorem RepL.at' {w : World} {P : Nat → Prop} : ∀ {t : Tr} {xs : List Value} {g o : Nat}, RepL w P t xs → (∀ (j : Nat) (u : Value), xs[j]? = some u → w.cell? ⟨g, o + j, none⟩ = some u) → CAt w t g o
  | .nil, _, _, _, _, _ => trivial
  | .one no nm n, _, g, o, ⟨ys, e, h⟩, hx => by
    subst e
    exact ⟨hx 0 _ rfl, hx 1 _ rfl, hx 2 _ rfl, RepL.at' h fun j u hj => by rw [Nat.add_assoc, Nat.add_comm 3 j]; exact hx (j + 3) u hj⟩
  | .many ws n, _, g, o, ⟨v, ys, e, ⟨a, c, zs, e1, hc, h1, h2⟩, h⟩, hx => by
    subst e e1
    refine ⟨hx 0 _ rfl, hx 1 _ rfl, ⟨a, c, hx 2 _ rfl, hc, h2.imp id fun ⟨g', cur, T, ea, _, hh, hz⟩ => ⟨g', ea, RepL.at' h1 fun j u hj => ?_⟩⟩, RepL.at' h fun j u hj => by rw [Nat.add_assoc, Nat.add_comm 3 j]; exact hx (j + 3) u hj⟩
    rw [Nat.zero_add]
    exact (cell_block hh j).trans (hz j u hj)
  | .way l n, _, g, o, ⟨v, ys, e, ⟨a, c, zs, e1, hc, h1, h2⟩, h⟩, hx => by
    subst e e1
    refine ⟨⟨a, c, hx 0 _ rfl, hc, h2.imp id fun ⟨g', cur, T, ea, _, hh, hz⟩ => ⟨g', ea, RepL.at' h1 fun j u hj => ?_⟩⟩, RepL.at' h fun j u hj => by rw [Nat.add_assoc, Nat.add_comm 1 j]; exact hx (j + 1) u hj⟩
    rw [Nat.zero_add]
    exact (cell_block hh j).trans (hz j u hj)
theorem RepS.at' {w : World} {P : Nat → Prop} {t : Tr} {v : Value} (h : RepS w P t v) : SAt w t v := by
  obtain ⟨a, c, zs, e, hc, h1, h2⟩ := h
  refine ⟨a, c, e, hc, h2.imp id fun ⟨g', cur, T, ea, _, hh, hz⟩ => ⟨g', ea, RepL.at' h1 fun j u hj => ?_⟩⟩
  rw [Nat.zero_add]
  exact (cell_block hh j).trans (hz j u hj)
theorem SAt.drewN {w : World} {t : Tr} {v : Value} (hs : SAt w t v) (n : Nat) : SAt (w.drewN n) t v := SAt.keep (w := w) (w' := w.drewN n) (fun a v h => h) hs
theorem quiet_add {P : Program} {f : FuncId} {args : Array Value} {w : World} {a n : Nat} {v : Value} (h : Calls P f args (w.drewN (a + n)) fun e w' => e = .returned v ∧ ∃ m, w' = (w.drewN (a + n)).drewN m) : Calls P f args (w.drewN (a + n)) fun e w'' => e = .returned v ∧ ∃ m, w'' = w.drewN (a + m) :=
  h.mono fun _ _ ⟨he, m, hm⟩ => ⟨he, n + m, by rw [hm, World.drewN_drewN, Nat.add_assoc]⟩
set_option maxRecDepth 100000 in
set_option maxHeartbeats 3200000 in
theorem sameCells_any : ∀ (N : Nat) (t : Tr), t.tot < N → t.tot ≤ 1000000 → t.wf false → ∀ (v v' : Value) (w : World), SAt w t v → SAt w t v' → Calls Tryz.prog 8 #[v, v'] w fun e w' => e = .returned (.bool true) ∧ ∃ m, w' = w.drewN m := by
  intro N
  induction N with
  | zero => intro t h; omega
  | succ N ih =>
    intro t hN ht hwf v v' w hv hv'
    have IH := hid ih
    obtain ⟨a, c, rfl, hc, h1⟩ := hv
    obtain ⟨a', c', rfl, hc', h1'⟩ := hv'
    clear ih
    have hlt := t.len_tot
    have hnn : ((t.len : Int) != (t.len : Int)) = false := by simp
    have hnD : decide ((t.len : Int) = (t.len : Int)) = true := decide_eq_true rfl
    go_enter Tryz.func8, Tryz.ntmps8
    go_upto_region 4 with fail
    rcases h1 with h0 | ⟨g, rfl, hg⟩
    · have h0I : ¬ (0 : Int) < (t.len : Int) := by omega
      go_loopw [5] (fun u wr => u = .int .i64 0 ∧ wr = w) (fun _ _ => 0)
      case atStart => exact ⟨rfl, rfl⟩
      case round =>
        obtain ⟨rfl, hwr⟩ := hrel
        subst wr
        go_wp2_with fail
        go_ret
        exact ⟨rfl, 0, rfl⟩
    · rcases h1' with h0' | ⟨g', rfl, hg'⟩
      · have h0I : ¬ (0 : Int) < (t.len : Int) := by omega
        go_loopw [5] (fun u wr => u = .int .i64 0 ∧ wr = w) (fun _ _ => 0)
        case atStart => exact ⟨rfl, rfl⟩
        case round =>
          obtain ⟨rfl, hwr⟩ := hrel
          subst wr
          go_wp2_with fail
          go_ret
          exact ⟨rfl, 0, rfl⟩
      · go_loopw [5] (fun u wr => (∃ m, wr = w.drewN m) ∧ ∃ (k : Nat) (tr : Tr), u = .int .i64 k ∧ tr.wf false ∧ CAt w tr g (k * 3) ∧ CAt w tr g' (k * 3) ∧ k + tr.len = t.len ∧ tr.tot ≤ t.tot) (fun u _ => t.len - (intOf u).toNat)
        case atStart => exact ⟨⟨0, rfl⟩, 0, t, rfl, hwf, hg, hg', Nat.zero_add _, Nat.le_refl _⟩
        case round =>
          obtain ⟨⟨m, hwr⟩, k, tr, rfl, hw1, hc1, hc2, hk, htt⟩ := hrel
          subst hwr
          cases tr with
          | nil =>
            have hkI : ¬ (k : Int) < (t.len : Int) := by simp [Tr.len] at hk; omega
            clear hk htt
            go_wp2_with fail
            go_ret
            exact ⟨rfl, m, rfl⟩
          | one no nm n =>
            obtain ⟨x0, x1, x2, x3⟩ := hc1
            obtain ⟨y0, y1, y2, y3⟩ := hc2
            have HW := hid hw1.2
            have X3 := hid x3
            have Y3 := hid y3
            have hkI : (k : Int) < (t.len : Int) := by simp [Tr.len] at hk; omega
            have hk0 : (0 : Int) ≤ (k : Int) := by omega
            clear x3 y3 hw1
            have hkl : k < t.len := by omega
            have hsn : (nm == nm) = true := by simp
            have HKN := hid (show k + 1 + n.len = t.len by simp [Tr.len] at hk; omega)
            have HTN := hid (show n.tot ≤ t.tot by simp [Tr.tot] at htt; omega)
            clear hk htt
            go_upto_region 6 with fail
            go_quiet (fail)
            go_wp2_with fail
            go_loopw [6] (fun u wr => u = .int .i64 0 ∧ ∃ m, wr = w.drewN m) (fun _ _ => 0)
            case atStart => exact ⟨rfl, _, World.drewN_drewN _ _ _⟩
            case round =>
              obtain ⟨rfl, m2, hwr⟩ := hrel
              subst hwr
              go_wp2_with fail
              go_roundw
              case rel => exact ⟨⟨_, rfl⟩, k + 1, n, by go_num, HW.out, by rw [Nat.succ_mul]; exact X3.out, by rw [Nat.succ_mul]; exact Y3.out, HKN.out, HTN.out⟩
              case measure => simp [intOf]; omega
          | many ws n =>
            obtain ⟨x0, x1, ⟨ax, cx, x2, hcx, x4⟩, x3⟩ := hc1
            obtain ⟨y0, y1, ⟨ay, cy, y2, hcy, y4⟩, y3⟩ := hc2
            obtain ⟨⟨l0, m0, hws⟩, hwt, hwn⟩ := hw1
            have hwl : 0 < ws.len := by rw [hws]; simp [Tr.len]
            obtain ⟨gx, rfl, hgx⟩ := x4.resolve_left (by omega)
            obtain ⟨gy, rfl, hgy⟩ := y4.resolve_left (by omega)
            have HWN := hid hwn
            have HWT := hid hwt
            have X3 := hid x3
            have Y3 := hid y3
            have HGX := hid hgx
            have HGY := hid hgy
            have hkI : (k : Int) < (t.len : Int) := by simp [Tr.len] at hk; omega
            have hk0 : (0 : Int) ≤ (k : Int) := by omega
            have hkl : k < t.len := by omega
            have HKN := hid (show k + 1 + n.len = t.len by simp [Tr.len] at hk; omega)
            have htn : 1 + ws.tot + n.tot ≤ t.tot := htt
            have HTN := hid (show n.tot ≤ t.tot by omega)
            have hwlt := ws.len_tot
            have htw : ws.tot < t.tot := by omega
            have hwl1 : ws.tot ≤ 1000000 := by omega
            have hwl3 : ws.len ≤ 1000000 := by omega
            clear htn
            clear x3 y3 hwn hwt hws hgx hgy x4 y4 hk htt
            go_upto_region 6 with fail
            go_quiet (fail)
            go_wp2_with fail
            go_loopw [6] (fun u wr => (∃ m, wr = w.drewN m) ∧ ∃ (k2 : Nat) (tw : Tr), u = .int .i64 k2 ∧ tw.wf true ∧ CAt w tw gx k2 ∧ CAt w tw gy k2 ∧ k2 + tw.len = ws.len ∧ tw.tot ≤ ws.tot) (fun u _ => ws.len - (intOf u).toNat)
            case atStart => exact ⟨⟨_, World.drewN_drewN _ _ _⟩, 0, ws, rfl, HWT.out, HGX.out, HGY.out, Nat.zero_add _, Nat.le_refl _⟩
            case round =>
              obtain ⟨⟨m2, hwr⟩, k2, tw, rfl, hw2, hd1, hd2, hk2, htt2⟩ := hrel
              subst hwr
              cases tw with
              | nil =>
                have hkI2 : ¬ (k2 : Int) < (ws.len : Int) := by simp [Tr.len] at hk2; omega
                clear hk2 htt2
                go_wp2_with fail
                go_roundw
                case rel => exact ⟨⟨_, rfl⟩, k + 1, n, by go_num, HWN.out, by rw [Nat.succ_mul]; exact X3.out, by rw [Nat.succ_mul]; exact Y3.out, HKN.out, HTN.out⟩
                case measure => simp [intOf]; omega
              | one no nm n2 => exact hw2.elim
              | many ws2 n2 => exact hw2.elim
              | way l n2 =>
                obtain ⟨⟨al, cl, p0, hcl, p1⟩, p3⟩ := hd1
                obtain ⟨al', cl', q0, hcl', q1⟩ := hd2.1
                have q3 := hd2.2
                obtain ⟨hwl2, hwn2⟩ := hw2
                have HL := hid (show SAt w l (.slice al l.len cl) from ⟨al, cl, rfl, hcl, p1⟩)
                have HL' := hid (show SAt w l (.slice al' l.len cl') from ⟨al', cl', rfl, hcl', q1⟩)
                have P3 := hid p3
                have Q3 := hid q3
                have HWL := hid hwl2
                have HWM := hid hwn2
                have hkI2 : (k2 : Int) < (ws.len : Int) := by simp [Tr.len] at hk2; omega
                have hk20 : (0 : Int) ≤ (k2 : Int) := by omega
                have hkl2 : k2 < ws.len := by omega
                have HKN2 := hid (show k2 + 1 + n2.len = ws.len by simp [Tr.len] at hk2; omega)
                have htn2 : 1 + l.tot + n2.tot ≤ ws.tot := htt2
                have HTN2 := hid (show n2.tot ≤ ws.tot by omega)
                have hl1 : l.tot < N := by omega
                have hl2 : l.tot ≤ 1000000 := by omega
                clear htn2
                clear p1 q1 p3 q3 hd2 hwl2 hwn2 hk2 htt2
                go_upto_region 11 with fail
                refine wp_region_quiet_lit (by kernel_rfl) (by kernel_rfl) ?_
                repeat (quiet_step (fail))
                refine wpQuiet_step (fun K hK => ?_)
                go_simp
                apply Exists.intro
                refine ⟨fun n9 => ?_, hK _ ?_⟩
                · exact quiet_add (IH.out l hl1 hl2 HWL.out _ _ _ (HL.out.drewN _) (HL'.out.drewN _))
                clear hK K
                repeat (quiet_step (fail))
                refine wpQuiet_nil ?_
                rintro _ ⟨nq, rfl⟩
                go_wp2_with fail
                go_roundw
                case rel => exact ⟨⟨_, rfl⟩, k2 + 1, n2, by go_num, HWM.out, P3.out, Q3.out, HKN2.out, HTN2.out⟩
                case measure => simp [intOf]; omega
          | way l n => exact hw1.elim
end Go.Proofs.YtlaeflpddehipabGreatDoor

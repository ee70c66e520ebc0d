/- lut.Net.Right, walked. -/
import Derived.Test.YtlaeflpddehipabLnBad
import Derived.Deep.RegionHeld3
import Derived.Deep.RegionWith
import Derived.Deep.DeepCutAuto
import Derived.Deep.DrawnRows
import Derived.Deep.QuietTactic
import Derived.BigQuiet
import Derived.Laws.EntriesVeiled
set_option linter.unusedVariables false
namespace Go.Proofs.Ytlaeflpddehipab
open Go.RowKit

theorem run_max_int4 {P : Program} {w : World} (ts : Array TypeId) (t : TypeId) (x y z u : Int) : (Builtin.max_ ts t #[.int .i64 x, .int .i64 y, .int .i64 z, .int .i64 u]).run P w = .ok (.int .i64 (max (max (max x y) z) u)) w := by
  have h1 : (if y > x then y else x) = max x y := by omega
  have h2 : (if z > max x y then z else max x y) = max (max x y) z := by omega
  have h3 : (if u > max (max x y) z then u else max (max x y) z) = max (max (max x y) z) u := by omega
  simp [Builtin.max_, Builtin.max2]
  omega
attribute [local go_sem] run_max_int4

attribute [local go_sem ↓] Go.wp_at_zero Go.wp_at_succ

theorem keep_four {w3 w' : World} {b1 k1 b2 k2 b3 k3 b4 k4 : Nat} {x y z u : Value} (l1 : b1 < w3.heap.size) (c1 : w3.cell? ⟨b1, k1, none⟩ = some x) (l2 : b2 < w3.heap.size) (c2 : w3.cell? ⟨b2, k2, none⟩ = some y) (l3 : b3 < w3.heap.size) (c3 : w3.cell? ⟨b3, k3, none⟩ = some z) (l4 : b4 < w3.heap.size) (c4 : w3.cell? ⟨b4, k4, none⟩ = some u) (h : Below w3.heap.size w3 w') :
    w'.cell? ⟨b1, k1, none⟩ = some x ∧ w'.cell? ⟨b2, k2, none⟩ = some y ∧ w'.cell? ⟨b3, k3, none⟩ = some z ∧ w'.cell? ⟨b4, k4, none⟩ = some u ∧ Below w3.heap.size w3 w' :=
  ⟨(h.cell (p := ⟨b1, k1, none⟩) l1).trans c1, (h.cell (p := ⟨b2, k2, none⟩) l2).trans c2, (h.cell (p := ⟨b3, k3, none⟩) l3).trans c3, (h.cell (p := ⟨b4, k4, none⟩) l4).trans c4, h⟩

/-- A bool comes back; what was there stays. -/
def Tell (b : Bool) (w : World) (e : Ending) (w' : World) : Prop := e = .returned (.bool b) ∧ Below w.heap.size w w'

set_option maxHeartbeats 800000 in
theorem LnRight_sizes (B b : Nat) (y : Lay) (L : LN) (w : World) (h : LnIn B w b y L) (hBw : B ≤ w.heap.size) (hs : L.sizes = false) :
    Calls Try.prog 7 #[.pointer (some ⟨b, 0, none⟩)] w (Tell false w) := by
  have c0 := h.g
  have c1 := h.regs
  have c2 := h.luts
  have c3 := h.outs
  have hb0 : b < w.heap.size := Nat.lt_of_lt_of_le h.hb hBw
  have E := hid hs
  unfold LN.sizes at hs
  clear h
  generalize L.given = g at *
  generalize L.regs.length = r at *
  generalize L.luts.length = l at *
  generalize L.outs.length = o at *
  by_cases hg : g < 0
  · clear hs
    go_enter Try.func7, Try.ntmps7
    go_wp2
    go_quiet (fail)
    go_wp2
    go_ret
    exact ⟨rfl, below_drewN ((Below.refl _ _).alloc (Nat.le_refl _) _) _⟩
  · have hM : (20000 : Int) < max (max (max g r) l) o := by
      simp at hs
      omega
    have hg' : decide (g < 0) = false := decide_eq_false hg
    clear hs
    generalize hmm : max (max (max g (r : Int)) (l : Int)) (o : Int) = M at hM
    have HMM := hid hmm
    go_enter Try.func7, Try.ntmps7
    go_wp2
    go_quiet (fail)
    go_wp2
    go_ret
    exact ⟨rfl, below_drewN ((Below.refl _ _).alloc (Nat.le_refl _) _) _⟩

def LN.lutsOk (L : LN) (k : Nat) : Prop := ∀ j, j < k → L.lutBad j = false
theorem LN.lutsOk.next {L : LN} {k : Nat} (h : L.lutsOk k) (hk : L.lutBad k = false) : L.lutsOk (k + 1) := by
  intro j hj
  by_cases e : j = k
  · subst e; exact hk
  · exact h j (by omega)
theorem LN.right_lut {L : LN} {k : Nat} (hk : k < L.luts.length) (h : L.lutBad k = true) : L.right = false := by
  unfold LN.right
  have : (List.range L.luts.length).all (fun i => !L.lutBad i) = false := by
    rw [List.all_eq_false]
    exact ⟨k, by simpa using hk, by simp [h]⟩
  rw [this]
  simp
theorem LN.right_rest {L : LN} (hs : L.sizes = true) (h : L.lutsOk L.luts.length) : L.right = (!L.outsBad && !L.regsBad) := by
  unfold LN.right
  have : (List.range L.luts.length).all (fun i => !L.lutBad i) = true := by
    rw [List.all_eq_true]
    intro i hi
    rw [h i (by simpa using hi)]
    rfl
  rw [hs, this]
  simp

/-- What Right finds behind its first rows: the net, the box that leads to it, the function in its box. -/
structure RightAt (B b : Nat) (y : Lay) (L : LN) (w w2 : World) : Prop where
  net : LnIn B w2 b y L
  hB : B ≤ w.heap.size
  one : w2.cell? ⟨w.heap.size, 0, none⟩ = some (.pointer (some ⟨b, 0, none⟩))
  two : w2.cell? ⟨w.heap.size + 1, 0, none⟩ = some (.func (.func 15) #[] #[.pointer (some ⟨w.heap.size, 0, none⟩)])
  sz : w.heap.size + 2 ≤ w2.heap.size
  bel : Below w.heap.size w w2
theorem RightAt.stay {B b : Nat} {y : Lay} {L : LN} {w w2 w3 : World} (h : RightAt B b y L w w2) (hb : Below w2.heap.size w2 w3) : RightAt B b y L w w3 :=
  ⟨h.net.stay (hb.mono (by have := h.sz; have := h.hB; omega)), h.hB, (hb.cell (p := ⟨w.heap.size, 0, none⟩) (by have := h.sz; show w.heap.size < _; omega)).trans h.one, (hb.cell (p := ⟨w.heap.size + 1, 0, none⟩) (by have := h.sz; show w.heap.size + 1 < _; omega)).trans h.two, Nat.le_trans h.sz hb.size, h.bel.trans (hb.mono (by have := h.sz; omega))⟩

theorem enters53 : ∀ args w, (callFunc 15 args).run Try.prog w = .ok (.enter 15 args) w := enters_of Try.func15 (by kernel_rfl) rfl
theorem enters56 : ∀ args w, (callFunc 18 args).run Try.prog w = .ok (.enter 18 args) w := enters_of Try.func18 (by kernel_rfl) rfl
theorem enters58 : ∀ args w, (callFunc 20 args).run Try.prog w = .ok (.enter 20 args) w := enters_of Try.func20 (by kernel_rfl) rfl

theorem LnRight_boxes (wr : World) (x y z : Value) (T T' : Nat) : ((wr.alloc (.cells #[x] T)).alloc (.cells #[y, z] T')).cell? ⟨wr.heap.size, 0, none⟩ = some x ∧ ((wr.alloc (.cells #[x] T)).alloc (.cells #[y, z] T')).cell? ⟨wr.heap.size + 1, 0, none⟩ = some y ∧
    ((wr.alloc (.cells #[x] T)).alloc (.cells #[y, z] T')).cell? ⟨wr.heap.size + 1, 1, none⟩ = some z ∧ Below wr.heap.size wr ((wr.alloc (.cells #[x] T)).alloc (.cells #[y, z] T')) ∧ wr.heap.size + 2 ≤ ((wr.alloc (.cells #[x] T)).alloc (.cells #[y, z] T')).heap.size := by
  have h := cell_new (wr.alloc (.cells #[x] T)) #[y, z] T'
  simp only [World.size_alloc] at h
  refine ⟨?_, h 0, h 1, ((Below.refl _ _).alloc (Nat.le_refl _) _).alloc (by simp) _, by simp⟩
  have hb : Below (wr.alloc (.cells #[x] T)).heap.size (wr.alloc (.cells #[x] T)) ((wr.alloc (.cells #[x] T)).alloc (.cells #[y, z] T')) := (Below.refl _ _).alloc (Nat.le_refl _) _
  rw [hb.cell (p := ⟨wr.heap.size, 0, none⟩) (by simp), cell_new]
  rfl
theorem keep_pair {w3 w' : World} {b k1 k2 : Nat} {x y : Value} (hlt : b < w3.heap.size) (c1 : w3.cell? ⟨b, k1, none⟩ = some x) (c2 : w3.cell? ⟨b, k2, none⟩ = some y) (h : Below w3.heap.size w3 w') :
    w'.cell? ⟨b, k1, none⟩ = some x ∧ w'.cell? ⟨b, k2, none⟩ = some y ∧ Below w3.heap.size w3 w' :=
  ⟨(h.cell (p := ⟨b, k1, none⟩) hlt).trans c1, (h.cell (p := ⟨b, k2, none⟩) hlt).trans c2, h⟩

theorem LnRight_ins (B b n : Nat) (y : Lay) (L : LN) (w wx : World) (b4 : Nat) (k : Nat) (ai : Option Addr) (ci : Nat) (tl : List Int) (ib : Bool) (h : RightAt B b y L w wx) (hs : L.sizes = true) (hk : k ≤ 20000) (s0 : wx.cell? ⟨b4, 0, none⟩ = some (.int .i64 (k : Int))) (h4 : b4 + 2 ≤ wx.heap.size)
    (hc : Cells B wx ai n (fun j => .int .i64 (tl.getD j 0))) (hib : ib = (List.range n).any fun j => badB (L.given + L.regs.length + k) (tl.getD j 0)) (hn : n ≤ 4 := by omega) :
    ∀ W, Below wx.heap.size wx W → Calls Try.prog 17 #[.slice ai n ci, .func (.func 18) #[] #[.pointer (some ⟨w.heap.size, 0, none⟩), .pointer (some ⟨b4, 0, none⟩)]] W fun e w' => e = .returned (.bool ib) ∧ Below wx.heap.size wx w' := by
  intro W hW
  have hBx : B ≤ wx.heap.size := by have := h.sz; have := h.hB; omega
  rw [hib]
  refine (contains_int B 18 #[.pointer (some ⟨w.heap.size, 0, none⟩), .pointer (some ⟨b4, 0, none⟩)] enters56 ai n ci (fun j => .int .i64 (tl.getD j 0)) (fun j => badB (L.given + L.regs.length + k) (tl.getD j 0)) W (by unfold maxLen; omega) (hc.stay (hW.mono hBx)) (Nat.le_trans hBx hW.size) ?_).mono ?_
  · intro W' j hW' hj
    have hx := h.stay (hW.trans (hW'.mono hW.size))
    have hs0 := ((hW.trans (hW'.mono hW.size)).cell (p := ⟨b4, 0, none⟩) (by show b4 < _; omega)).trans s0
    refine (ahead_bad B b w.heap.size b4 y L W' hx.net hs hx.one k hk hs0 (tl.getD j 0)).mono ?_
    rintro e w' ⟨rfl, hb⟩
    exact ⟨rfl, hW'.trans (hb.mono hW'.size)⟩
  · rintro e w' ⟨rfl, hb⟩
    exact ⟨rfl, hW.trans (hb.mono hW.size)⟩

theorem LnRight_outs (B b : Nat) (y : Lay) (L : LN) (w wx : World) (h : RightAt B b y L w wx) (hs : L.sizes = true) :
    ∀ W, Below wx.heap.size wx W → Calls Try.prog 17 #[.slice y.ao L.outs.length y.co, .func (.func 15) #[] #[.pointer (some ⟨w.heap.size, 0, none⟩)]] W fun e w' => e = .returned (.bool L.outsBad) ∧ Below wx.heap.size wx w' := by
  intro W hW
  have hBx : B ≤ wx.heap.size := by have := h.sz; have := h.hB; omega
  refine (contains_int B 15 #[.pointer (some ⟨w.heap.size, 0, none⟩)] enters53 y.ao L.outs.length y.co (fun j => .int .i64 (L.outs.getD j 0)) (fun j => badB L.signals (L.outs.getD j 0)) W h.net.rows.lo (h.net.rows.ro.stay (hW.mono hBx)) (Nat.le_trans hBx hW.size) ?_).mono ?_
  · intro W' j hW' hj
    have hx := h.stay (hW.trans (hW'.mono hW.size))
    refine (bad_any B b w.heap.size y L W' hx.net hs hx.one (L.outs.getD j 0)).mono ?_
    rintro e w' ⟨rfl, hb⟩
    exact ⟨rfl, hW'.trans (hb.mono hW'.size)⟩
  · rintro e w' ⟨rfl, hb⟩
    exact ⟨rfl, hW.trans (hb.mono hW.size)⟩
theorem LnRight_regs (B b : Nat) (y : Lay) (L : LN) (w wx : World) (h : RightAt B b y L w wx) (hs : L.sizes = true) :
    ∀ W, Below wx.heap.size wx W → Calls Try.prog 19 #[.slice y.ar L.regs.length y.cr, .func (.func 20) #[] #[.pointer (some ⟨w.heap.size + 1, 0, none⟩)]] W fun e w' => e = .returned (.bool L.regsBad) ∧ Below wx.heap.size wx w' := by
  intro W hW
  have hBx : B ≤ wx.heap.size := by have := h.sz; have := h.hB; omega
  refine (contains_reg B 20 #[.pointer (some ⟨w.heap.size + 1, 0, none⟩)] enters58 y.ar L.regs.length y.cr (regCell L.regs) (fun j => badB L.signals (L.regs.getD j LR.zero).next) W h.net.rows.lr (h.net.rows.rr.stay (hW.mono hBx)) (Nat.le_trans hBx hW.size) ?_).mono ?_
  · intro W' j hW' hj
    have hx := h.stay (hW.trans (hW'.mono hW.size))
    simp only [regCell_0, regCell_1]
    refine (reg_bad B b w.heap.size (w.heap.size + 1) y L W' hx.net (Nat.le_trans hBx (Nat.le_trans hW.size hW'.size)) hs hx.one hx.two (by have := hx.sz; omega) (by have := hx.sz; omega) (L.regs.getD j LR.zero)).mono ?_
    rintro e w' ⟨rfl, hb⟩
    exact ⟨rfl, hW'.trans (hb.mono hW'.size)⟩
  · rintro e w' ⟨rfl, hb⟩
    exact ⟨rfl, hW.trans (hb.mono hW.size)⟩

set_option maxRecDepth 100000 in
set_option maxHeartbeats 3200000 in
theorem LnRight_small (B b : Nat) (y : Lay) (L : LN) (w : World) (h : LnIn B w b y L) (hBw : B ≤ w.heap.size) (hs : L.sizes = true) :
    Calls Try.prog 7 #[.pointer (some ⟨b, 0, none⟩)] w (Tell L.right w) := by
  have hz := LN.sizes_of hs
  obtain ⟨hz0, hz1, hz2, hz3, hz4⟩ := hz
  have c0 := h.g
  have c1 := h.regs
  have c2 := h.luts
  have c3 := h.outs
  have hb0 : b < w.heap.size := Nat.lt_of_lt_of_le h.hb hBw
  have H := hid h
  have HS := hid hs
  have hg' : decide (L.given < 0) = false := decide_eq_false (by omega)
  have hM : max (max (max L.given L.regs.length) L.luts.length) (L.outs.length : Int) ≤ 20000 := by omega
  generalize hmm : max (max (max L.given (L.regs.length : Int)) (L.luts.length : Int)) (L.outs.length : Int) = M at hM
  have hM' : decide ((20000 : Int) < M) = false := decide_eq_false (by omega)
  have HMM := hid hmm
  clear h hs hM
  go_enter Try.func7, Try.ntmps7
  go_wp2
  go_quiet (fail)
  clear hmm hM' hg'
  go_upto_region 4 with fail
  have hA : RightAt B b y L w (((w.alloc (.cells #[.pointer (some ⟨b, 0, none⟩)] 35)).drewN nq).alloc (.cells #[.func (.func 15) #[] #[.pointer (some ⟨w.heap.size, 0, none⟩)]] 60)) := by
    have hb1 := (Below.refl w.heap.size w).alloc (Nat.le_refl _) (.cells #[.pointer (some ⟨b, 0, none⟩)] 35)
    have hb2 : Below (w.alloc (.cells #[.pointer (some ⟨b, 0, none⟩)] 35)).heap.size (w.alloc (.cells #[.pointer (some ⟨b, 0, none⟩)] 35)) (((w.alloc (.cells #[.pointer (some ⟨b, 0, none⟩)] 35)).drewN nq).alloc (.cells #[.func (.func 15) #[] #[.pointer (some ⟨w.heap.size, 0, none⟩)]] 60)) := (below_drewN (Below.refl _ _) nq).alloc (by simp) _
    have hb3 := hb1.trans (hb2.mono (by simp))
    refine ⟨H.out.stay (hb3.mono hBw), hBw, ?_, ?_, by simp, hb3⟩
    · rw [hb2.cell (p := ⟨w.heap.size, 0, none⟩) (by simp), cell_new]
      rfl
    · have h := cell_new ((w.alloc (.cells #[.pointer (some ⟨b, 0, none⟩)] 35)).drewN nq) #[.func (.func 15) #[] #[.pointer (some ⟨w.heap.size, 0, none⟩)]] 60 0
      have e : ((w.alloc (.cells #[.pointer (some ⟨b, 0, none⟩)] 35)).drewN nq).heap.size = w.heap.size + 1 := by simp
      rw [e] at h
      exact h
  generalize ((w.alloc (.cells #[.pointer (some ⟨b, 0, none⟩)] 35)).drewN nq).alloc (.cells #[.func (.func 15) #[] #[.pointer (some ⟨w.heap.size, 0, none⟩)]] 60) = w2 at *
  generalize max L.given (max (L.regs.length : Int) (max (L.luts.length : Int) (L.outs.length : Int))) = M2
  have d1 := hA.one
  have d2 := hA.net.luts
  have HA := hid hA
  clear hA c0 c1 c2 c3 H
  go_wp2_with fail
  go_loopw [44] (fun v wr => ∃ k : Nat, k ≤ L.luts.length ∧ v = .int .i64 k ∧ RightAt B b y L w wr ∧ L.lutsOk k) (fun v _ => L.luts.length - (intOf v).toNat)
  case atStart => exact ⟨0, Nat.zero_le _, rfl, HA.out, fun j hj => absurd hj (Nat.not_lt_zero _)⟩
  case round =>
    obtain ⟨k, hk, rfl, hat, hok⟩ := hrel
    have HAT := hid hat
    have HOK := hid hok
    clear d1 d2 hat hok HA
    by_cases hlt : k < L.luts.length
    · have hltI : (k : Int) < (L.luts.length : Int) := by omega
      have hk0 : (0 : Int) ≤ (k : Int) := by omega
      obtain ⟨bl, off, hal, hbl, t0, t1⟩ := HAT.out.net.rows.rl.two k hlt
      rw [lutCell_0] at t0
      rw [lutCell_1] at t1
      have hins := HAT.out.net.rows.ri k hlt
      have hli := HAT.out.net.rows.li k
      have E : Hid (L.lutBad k = (decide (4 < (L.luts.getD k LT.zero).ins.length) || decide ((L.luts.getD k LT.zero).table < 0) || decide ((2 : Int) ^ (2 ^ (L.luts.getD k LT.zero).ins.length) ≤ (L.luts.getD k LT.zero).table) || L.insBad k)) := rfl
      have IB : Hid (L.insBad k = (List.range (L.luts.getD k LT.zero).ins.length).any fun j => badB (L.given + L.regs.length + k) ((L.luts.getD k LT.zero).ins.getD j 0)) := rfl
      obtain ⟨yr, ycr, yl, ycl, yo, yco, yA, yC⟩ := y
      simp only at hal t0 t1 hins
      subst hal
      obtain ⟨t, ht⟩ : ∃ t, L.luts.getD k LT.zero = t := ⟨_, rfl⟩
      rw [ht] at t0 t1 hins hli E IB
      obtain ⟨tl, tb⟩ := t
      simp only at t0 t1 hins hli E IB
      have hsz := HAT.out.sz
      have hbl2 : bl < wr.heap.size := by have := HAT.out.net.rows; have := HAT.out.hB; omega
      have HINS := hid hins
      generalize yA k = ai at t0 HINS
      generalize yC k = ci at t0
      clear hins ht
      --[stub
      by_cases h4 : 4 < tl.length
      · have h4' : (4 : Int) < (tl.length : Int) := by omega
        have F : Hid (L.right = false) := LN.right_lut hlt (by rw [E.out]; simp [h4])
        go_wp2_with fail
        go_quiet (fail)
        go_wp2_with fail
        go_ret
        exact ⟨ret_bool F.out.symm, HAT.out.bel.trans ((below_drewN (((Below.refl _ _).alloc (Nat.le_refl _) _).alloc (by simp) _) _).mono (by omega))⟩
      · have h4' : decide ((4 : Int) < (tl.length : Int)) = false := decide_eq_false (by omega)
        by_cases hneg : tb < 0
        · have F : Hid (L.right = false) := LN.right_lut hlt (by rw [E.out]; simp [hneg])
          go_wp2_with fail
          go_quiet (fail)
          go_wp2_with fail
          go_ret
          exact ⟨ret_bool F.out.symm, HAT.out.bel.trans ((below_drewN (((Below.refl _ _).alloc (Nat.le_refl _) _).alloc (by simp) _) _).mono (by omega))⟩
        · have hneg' : decide (tb < 0) = false := decide_eq_false hneg
          have hib : ∃ r, L.insBad k = r := ⟨_, rfl⟩
          obtain ⟨ib, hib⟩ := hib
          rw [hib] at E IB
          have hk2 : k ≤ 20000 := by omega
          have hlen5 : tl.length = 0 ∨ tl.length = 1 ∨ tl.length = 2 ∨ tl.length = 3 ∨ tl.length = 4 := by omega
          clear h4 h4' hib
          rcases hlen5 with e | e | e | e | e
          · rw [e] at t0 HINS E IB
            have HE := hid e
            clear e hli
            have w1 : IntKind.u64.wrap 1 = 1 := by rfl
            have w2 : IntKind.i64.wrap 2 = 2 := by rfl
            by_cases hP : (2 : Int) ≤ tb
            · have F : Hid (L.right = false) := LN.right_lut hlt (by rw [E.out]; simp; omega)
              go_wp2_with fail
              go_quiet (fail)
              go_wp2_with fail
              go_ret
              exact ⟨ret_bool F.out.symm, HAT.out.bel.trans ((below_drewN (((Below.refl _ _).alloc (Nat.le_refl _) _).alloc (by simp) _) _).mono (by omega))⟩
            · have hP' : decide ((2 : Int) ≤ tb) = false := decide_eq_false hP
              have F : Hid (L.lutBad k = ib) := by unfold Hid; rw [E.out]; simp; omega
              go_upto_region 7 with fail
              obtain ⟨s0, s1, s2, hbx, hsx⟩ := LnRight_boxes wr (.int .i64 (k : Int)) (.slice ai 0 ci) (.int .i64 tb) 3 44
              generalize (wr.alloc (.cells #[.int .i64 (k : Int)] 3)).alloc (.cells #[.slice ai 0 ci, .int .i64 tb] 44) = wx at *
              have HATX := hid (HAT.out.stay hbx)
              have HCON := hid (LnRight_ins B b 0 _ L w wx wr.heap.size k ai ci tl ib HATX.out HS.out hk2 s0 hsx (HINS.out.stay (hbx.mono (by have := HAT.out.hB; omega))) IB.out)
              have S1 := hid s1
              have S2 := hid s2
              have hx1 : wr.heap.size + 1 < wx.heap.size := by omega
              cases ib
              all_goals
                go_region_held3 (fun w' => w'.cell? ⟨wr.heap.size + 1, 0, none⟩ = some (.slice ai 0 ci) ∧ w'.cell? ⟨wr.heap.size + 1, 1, none⟩ = some (.int .i64 tb) ∧ Below wx.heap.size wx w')
                  ((refine keep_pair hx1 S1.out S2.out ?_; repeat (first | with_reducible exact Below.refl _ _ | assumption | with_reducible refine Below.drew ?_)))
                  (first
                    | (go_at_call 17; (with_reducible refine (HCON.out _ (by first | exact Below.refl _ _ | exact (Below.refl _ _).drew | fail)).mono ?_); rintro e w' ⟨rfl, hbc⟩; have HBC := hid hbc)
                    | fail)
                go_wp2_with fail
              · go_roundw
                case rel => exact ⟨k + 1, by omega, by go_num, HATX.out.stay HBC.out, HOK.out.next F.out⟩
                case measure => simp [intOf]; omega
              · have G : Hid (L.right = false) := LN.right_lut hlt F.out
                go_ret
                exact ⟨ret_bool G.out.symm, (HATX.out.stay HBC.out).bel⟩
          · rw [e] at t0 HINS E IB
            have HE := hid e
            clear e hli
            have w1 : IntKind.u64.wrap 2 = 2 := by rfl
            have w2 : IntKind.i64.wrap 4 = 4 := by rfl
            by_cases hP : (4 : Int) ≤ tb
            · have F : Hid (L.right = false) := LN.right_lut hlt (by rw [E.out]; simp; omega)
              go_wp2_with fail
              go_quiet (fail)
              go_wp2_with fail
              go_ret
              exact ⟨ret_bool F.out.symm, HAT.out.bel.trans ((below_drewN (((Below.refl _ _).alloc (Nat.le_refl _) _).alloc (by simp) _) _).mono (by omega))⟩
            · have hP' : decide ((4 : Int) ≤ tb) = false := decide_eq_false hP
              have F : Hid (L.lutBad k = ib) := by unfold Hid; rw [E.out]; simp; omega
              go_upto_region 7 with fail
              obtain ⟨s0, s1, s2, hbx, hsx⟩ := LnRight_boxes wr (.int .i64 (k : Int)) (.slice ai 1 ci) (.int .i64 tb) 3 44
              generalize (wr.alloc (.cells #[.int .i64 (k : Int)] 3)).alloc (.cells #[.slice ai 1 ci, .int .i64 tb] 44) = wx at *
              have HATX := hid (HAT.out.stay hbx)
              have HCON := hid (LnRight_ins B b 1 _ L w wx wr.heap.size k ai ci tl ib HATX.out HS.out hk2 s0 hsx (HINS.out.stay (hbx.mono (by have := HAT.out.hB; omega))) IB.out)
              have S1 := hid s1
              have S2 := hid s2
              have hx1 : wr.heap.size + 1 < wx.heap.size := by omega
              cases ib
              all_goals
                go_region_held3 (fun w' => w'.cell? ⟨wr.heap.size + 1, 0, none⟩ = some (.slice ai 1 ci) ∧ w'.cell? ⟨wr.heap.size + 1, 1, none⟩ = some (.int .i64 tb) ∧ Below wx.heap.size wx w')
                  ((refine keep_pair hx1 S1.out S2.out ?_; repeat (first | with_reducible exact Below.refl _ _ | assumption | with_reducible refine Below.drew ?_)))
                  (first
                    | (go_at_call 17; (with_reducible refine (HCON.out _ (by first | exact Below.refl _ _ | exact (Below.refl _ _).drew | fail)).mono ?_); rintro e w' ⟨rfl, hbc⟩; have HBC := hid hbc)
                    | fail)
                go_wp2_with fail
              · go_roundw
                case rel => exact ⟨k + 1, by omega, by go_num, HATX.out.stay HBC.out, HOK.out.next F.out⟩
                case measure => simp [intOf]; omega
              · have G : Hid (L.right = false) := LN.right_lut hlt F.out
                go_ret
                exact ⟨ret_bool G.out.symm, (HATX.out.stay HBC.out).bel⟩
          · rw [e] at t0 HINS E IB
            have HE := hid e
            clear e hli
            have w1 : IntKind.u64.wrap 4 = 4 := by rfl
            have w2 : IntKind.i64.wrap 16 = 16 := by rfl
            by_cases hP : (16 : Int) ≤ tb
            · have F : Hid (L.right = false) := LN.right_lut hlt (by rw [E.out]; simp; omega)
              go_wp2_with fail
              go_quiet (fail)
              go_wp2_with fail
              go_ret
              exact ⟨ret_bool F.out.symm, HAT.out.bel.trans ((below_drewN (((Below.refl _ _).alloc (Nat.le_refl _) _).alloc (by simp) _) _).mono (by omega))⟩
            · have hP' : decide ((16 : Int) ≤ tb) = false := decide_eq_false hP
              have F : Hid (L.lutBad k = ib) := by unfold Hid; rw [E.out]; simp; omega
              go_upto_region 7 with fail
              obtain ⟨s0, s1, s2, hbx, hsx⟩ := LnRight_boxes wr (.int .i64 (k : Int)) (.slice ai 2 ci) (.int .i64 tb) 3 44
              generalize (wr.alloc (.cells #[.int .i64 (k : Int)] 3)).alloc (.cells #[.slice ai 2 ci, .int .i64 tb] 44) = wx at *
              have HATX := hid (HAT.out.stay hbx)
              have HCON := hid (LnRight_ins B b 2 _ L w wx wr.heap.size k ai ci tl ib HATX.out HS.out hk2 s0 hsx (HINS.out.stay (hbx.mono (by have := HAT.out.hB; omega))) IB.out)
              have S1 := hid s1
              have S2 := hid s2
              have hx1 : wr.heap.size + 1 < wx.heap.size := by omega
              cases ib
              all_goals
                go_region_held3 (fun w' => w'.cell? ⟨wr.heap.size + 1, 0, none⟩ = some (.slice ai 2 ci) ∧ w'.cell? ⟨wr.heap.size + 1, 1, none⟩ = some (.int .i64 tb) ∧ Below wx.heap.size wx w')
                  ((refine keep_pair hx1 S1.out S2.out ?_; repeat (first | with_reducible exact Below.refl _ _ | assumption | with_reducible refine Below.drew ?_)))
                  (first
                    | (go_at_call 17; (with_reducible refine (HCON.out _ (by first | exact Below.refl _ _ | exact (Below.refl _ _).drew | fail)).mono ?_); rintro e w' ⟨rfl, hbc⟩; have HBC := hid hbc)
                    | fail)
                go_wp2_with fail
              · go_roundw
                case rel => exact ⟨k + 1, by omega, by go_num, HATX.out.stay HBC.out, HOK.out.next F.out⟩
                case measure => simp [intOf]; omega
              · have G : Hid (L.right = false) := LN.right_lut hlt F.out
                go_ret
                exact ⟨ret_bool G.out.symm, (HATX.out.stay HBC.out).bel⟩
          · rw [e] at t0 HINS E IB
            have HE := hid e
            clear e hli
            have w1 : IntKind.u64.wrap 8 = 8 := by rfl
            have w2 : IntKind.i64.wrap 256 = 256 := by rfl
            by_cases hP : (256 : Int) ≤ tb
            · have F : Hid (L.right = false) := LN.right_lut hlt (by rw [E.out]; simp; omega)
              go_wp2_with fail
              go_quiet (fail)
              go_wp2_with fail
              go_ret
              exact ⟨ret_bool F.out.symm, HAT.out.bel.trans ((below_drewN (((Below.refl _ _).alloc (Nat.le_refl _) _).alloc (by simp) _) _).mono (by omega))⟩
            · have hP' : decide ((256 : Int) ≤ tb) = false := decide_eq_false hP
              have F : Hid (L.lutBad k = ib) := by unfold Hid; rw [E.out]; simp; omega
              go_upto_region 7 with fail
              obtain ⟨s0, s1, s2, hbx, hsx⟩ := LnRight_boxes wr (.int .i64 (k : Int)) (.slice ai 3 ci) (.int .i64 tb) 3 44
              generalize (wr.alloc (.cells #[.int .i64 (k : Int)] 3)).alloc (.cells #[.slice ai 3 ci, .int .i64 tb] 44) = wx at *
              have HATX := hid (HAT.out.stay hbx)
              have HCON := hid (LnRight_ins B b 3 _ L w wx wr.heap.size k ai ci tl ib HATX.out HS.out hk2 s0 hsx (HINS.out.stay (hbx.mono (by have := HAT.out.hB; omega))) IB.out)
              have S1 := hid s1
              have S2 := hid s2
              have hx1 : wr.heap.size + 1 < wx.heap.size := by omega
              cases ib
              all_goals
                go_region_held3 (fun w' => w'.cell? ⟨wr.heap.size + 1, 0, none⟩ = some (.slice ai 3 ci) ∧ w'.cell? ⟨wr.heap.size + 1, 1, none⟩ = some (.int .i64 tb) ∧ Below wx.heap.size wx w')
                  ((refine keep_pair hx1 S1.out S2.out ?_; repeat (first | with_reducible exact Below.refl _ _ | assumption | with_reducible refine Below.drew ?_)))
                  (first
                    | (go_at_call 17; (with_reducible refine (HCON.out _ (by first | exact Below.refl _ _ | exact (Below.refl _ _).drew | fail)).mono ?_); rintro e w' ⟨rfl, hbc⟩; have HBC := hid hbc)
                    | fail)
                go_wp2_with fail
              · go_roundw
                case rel => exact ⟨k + 1, by omega, by go_num, HATX.out.stay HBC.out, HOK.out.next F.out⟩
                case measure => simp [intOf]; omega
              · have G : Hid (L.right = false) := LN.right_lut hlt F.out
                go_ret
                exact ⟨ret_bool G.out.symm, (HATX.out.stay HBC.out).bel⟩
          · rw [e] at t0 HINS E IB
            have HE := hid e
            clear e hli
            have w1 : IntKind.u64.wrap 16 = 16 := by rfl
            have w2 : IntKind.i64.wrap 65536 = 65536 := by rfl
            by_cases hP : (65536 : Int) ≤ tb
            · have F : Hid (L.right = false) := LN.right_lut hlt (by rw [E.out]; simp; omega)
              go_wp2_with fail
              go_quiet (fail)
              go_wp2_with fail
              go_ret
              exact ⟨ret_bool F.out.symm, HAT.out.bel.trans ((below_drewN (((Below.refl _ _).alloc (Nat.le_refl _) _).alloc (by simp) _) _).mono (by omega))⟩
            · have hP' : decide ((65536 : Int) ≤ tb) = false := decide_eq_false hP
              have F : Hid (L.lutBad k = ib) := by unfold Hid; rw [E.out]; simp; omega
              go_upto_region 7 with fail
              obtain ⟨s0, s1, s2, hbx, hsx⟩ := LnRight_boxes wr (.int .i64 (k : Int)) (.slice ai 4 ci) (.int .i64 tb) 3 44
              generalize (wr.alloc (.cells #[.int .i64 (k : Int)] 3)).alloc (.cells #[.slice ai 4 ci, .int .i64 tb] 44) = wx at *
              have HATX := hid (HAT.out.stay hbx)
              have HCON := hid (LnRight_ins B b 4 _ L w wx wr.heap.size k ai ci tl ib HATX.out HS.out hk2 s0 hsx (HINS.out.stay (hbx.mono (by have := HAT.out.hB; omega))) IB.out)
              have S1 := hid s1
              have S2 := hid s2
              have hx1 : wr.heap.size + 1 < wx.heap.size := by omega
              cases ib
              all_goals
                go_region_held3 (fun w' => w'.cell? ⟨wr.heap.size + 1, 0, none⟩ = some (.slice ai 4 ci) ∧ w'.cell? ⟨wr.heap.size + 1, 1, none⟩ = some (.int .i64 tb) ∧ Below wx.heap.size wx w')
                  ((refine keep_pair hx1 S1.out S2.out ?_; repeat (first | with_reducible exact Below.refl _ _ | assumption | with_reducible refine Below.drew ?_)))
                  (first
                    | (go_at_call 17; (with_reducible refine (HCON.out _ (by first | exact Below.refl _ _ | exact (Below.refl _ _).drew | fail)).mono ?_); rintro e w' ⟨rfl, hbc⟩; have HBC := hid hbc)
                    | fail)
                go_wp2_with fail
              · go_roundw
                case rel => exact ⟨k + 1, by omega, by go_num, HATX.out.stay HBC.out, HOK.out.next F.out⟩
                case measure => simp [intOf]; omega
              · have G : Hid (L.right = false) := LN.right_lut hlt F.out
                go_ret
                exact ⟨ret_bool G.out.symm, (HATX.out.stay HBC.out).bel⟩
      --stub]
    · obtain rfl : k = L.luts.length := by omega
      have F := hid (LN.right_rest HS.out HOK.out)
      have d1 := HAT.out.one
      have d2 := HAT.out.net.outs
      have d3 := HAT.out.two
      have d4 := HAT.out.net.regs
      have D1 := hid d1
      have D2 := hid d2
      have D3 := hid d3
      have D4 := hid d4
      have l1 : w.heap.size < wr.heap.size := by have := HAT.out.sz; omega
      have l2 : b < wr.heap.size := by omega
      have l3 : w.heap.size + 1 < wr.heap.size := by have := HAT.out.sz; omega
      have HOC := hid (LnRight_outs B b y L w wr HAT.out HS.out)
      have HRC := hid (LnRight_regs B b y L w wr HAT.out HS.out)
      generalize L.outsBad = ob at F HOC
      generalize L.regsBad = rb at F HRC
      clear d1 d2 d3 d4
      cases ob
      · cases rb
        all_goals
          go_upto_region 10 with fail
          go_region_held3 (fun w' => w'.cell? ⟨w.heap.size, 0, none⟩ = some (.pointer (some ⟨b, 0, none⟩)) ∧ w'.cell? ⟨b, 3, none⟩ = some (.slice y.ao L.outs.length y.co) ∧ w'.cell? ⟨w.heap.size + 1, 0, none⟩ = some (.func (.func 15) #[] #[.pointer (some ⟨w.heap.size, 0, none⟩)]) ∧ w'.cell? ⟨b, 1, none⟩ = some (.slice y.ar L.regs.length y.cr) ∧ Below wr.heap.size wr w')
            ((refine keep_four l1 D1.out l2 D2.out l3 D3.out l2 D4.out ?_; repeat (first | with_reducible exact Below.refl _ _ | assumption | with_reducible refine Below.drew ?_)))
            (first
              | (go_at_call 17; (with_reducible refine (HOC.out _ (by first | exact Below.refl _ _ | exact (Below.refl _ _).drew | fail)).mono ?_); rintro e w' ⟨rfl, hbc⟩; have HBC := hid hbc)
              | (go_at_call 19; (with_reducible refine (HRC.out _ (by first | exact HBC.out | exact HBC.out.drew | fail)).mono ?_); rintro e w'' ⟨rfl, hbd⟩; have HBD := hid hbd)
              | fail)
          go_wp2_with fail
          go_ret
          exact ⟨ret_bool F.out.symm, (HAT.out.stay HBD.out).bel⟩
      · have e1 := D1.out
        have e2 := D2.out
        have e3 := D3.out
        go_upto_region 10 with fail
        go_region_with ((go_at_call 17; (with_reducible refine (HOC.out _ (by first | exact Below.refl _ _ | exact (Below.refl _ _).drew | fail)).mono ?_); rintro e w' ⟨rfl, hbc⟩; have HBC := hid hbc))
        all_goals
          go_wp2_with fail
          go_ret
          exact ⟨ret_bool (by rw [F.out]; rfl), (HAT.out.stay HBC.out).bel⟩

theorem LnRight_any (B b : Nat) (y : Lay) (L : LN) (w : World) (h : LnIn B w b y L) (hBw : B ≤ w.heap.size) :
    Calls Try.prog 7 #[.pointer (some ⟨b, 0, none⟩)] w (Tell L.right w) := by
  cases hs : L.sizes
  · have e : L.right = false := by unfold LN.right; rw [hs]; simp
    rw [e]
    exact LnRight_sizes B b y L w h hBw hs
  · exact LnRight_small B b y L w h hBw hs
end Go.Proofs.Ytlaeflpddehipab

/- The document's NewDevice (written by gen_rnew.py). -/
import Derived.Test.YtlaeflpddehipabDoorDevBits
import Derived.Test.YtlaeflpddehipabDoorRParse
import Derived.Test.YtlaeflpddehipabDoorLsNew
import Derived.Test.YtlaeflpddehipabDoorLsFactsAll
import Derived.Deep.RegionHeld3
set_option linter.unusedVariables false
set_option linter.unusedSimpArgs false
set_option linter.unusedSectionVars false
namespace Go.Proofs.YtlaeflpddehipabDoor
open Go.RowKit
attribute [local go_sem ↓] Go.wp_at_zero Go.wp_at_succ

theorem dp_yes (s : ByteArray) (hlen : s.size ≤ 1000000) (w : World) (hp : parses (bl s) = true) (M : LN) (hM : (run (bl s)).1 = M) : Calls Tryd.prog 11 #[.string s] w fun e w' =>
    ∃ a1 c1 a2 c2 a3 c3 A C, e = .returned (.tuple #[.agg #[.int .i64 M.given, .slice a1 M.regs.length c1, .slice a2 M.luts.length c2, .slice a3 M.outs.length c3], .int .i64 0]) ∧ (∀ wx : World, (∀ k, w.heap.size ≤ k → k < w'.heap.size → wx.heap[k]? = w'.heap[k]?) → LnRows wx.heap.size wx ⟨a1, c1, a2, c2, a3, c3, A, C⟩ M) ∧ Below w.heap.size w w' := by
  refine (Q.RParse_any s hlen w).mono ?_
  rintro e w' (⟨_, y, rfl, hr, hb⟩ | ⟨h, _⟩)
  · rw [rparses_same (bl_bytes s) hp, hM] at hr
    refine ⟨y.ar, y.cr, y.al, y.cl, y.ao, y.co, y.A, y.C, ?_, hr, hb⟩
    rw [rparses_same (bl_bytes s) hp, hM]
    rfl
  · exact absurd ((rparses_iff (bl_bytes s)).1 hp) h
theorem dp_no (s : ByteArray) (hlen : s.size ≤ 1000000) (w : World) (hp : parses (bl s) = false) : Calls Tryd.prog 11 #[.string s] w fun e w' =>
    e = .returned (.tuple #[.agg #[.int .i64 0, .slice none 0 0, .slice none 0 0, .slice none 0 0], .int .i64 3]) ∧ Below w.heap.size w w' := by
  refine (Q.RParse_any s hlen w).mono ?_
  rintro e w' (⟨h, _⟩ | ⟨_, rfl, hb⟩)
  · rw [← rparses_iff (bl_bytes s), hp] at h; cases h
  · exact ⟨rfl, hb⟩

/-- Which error a device is begun with; 0: none. -/
def devErr (s : ByteArray) (ins outs : List Int) : Int :=
  if wAll ins = true ∧ wAll outs = true then
    if parses (bl s) = true then
      if (run (bl s)).1.given = (wTo ins ins.length : Nat) ∧ (run (bl s)).1.outs.length = wTo outs outs.length then 0 else 2
    else 3
  else 1
/-- The document's device at block d, its registers in a row of its own. -/
def RBox (C : Nat) (W : World) (d : Nat) (x0 x1 x2 x3 x5 x6 : Value) (l : List Bool) : Prop :=
  ∃ a c, C ≤ d ∧ W.heap[d]? = some (.cells #[x0, x1, x2, x3, .slice a l.length c, x5, x6] 113 (0, 0)) ∧ W.ownsRow C 4 1 (.slice a l.length c) l.length (l.map .bool)
theorem RBox.stay {C : Nat} {W W' : World} {d : Nat} {x0 x1 x2 x3 x5 x6 : Value} {l : List Bool} (h : RBox C W d x0 x1 x2 x3 x5 x6 l) (hb : Below W.heap.size W W') : RBox C W' d x0 x1 x2 x3 x5 x6 l := by
  obtain ⟨a, c, h0, h1, h2⟩ := h
  exact ⟨a, c, h0, (hb.block d (boxLt h1)).trans h1, rowOld h2 hb⟩
theorem RBox.base {C C' : Nat} {W : World} {d : Nat} {x0 x1 x2 x3 x5 x6 : Value} {l : List Bool} (h : RBox C W d x0 x1 x2 x3 x5 x6 l) (hC : C' ≤ C) : RBox C' W d x0 x1 x2 x3 x5 x6 l := by
  obtain ⟨a, c, h0, h1, h2⟩ := h
  exact ⟨a, c, Nat.le_trans hC h0, h1, lsBase h2 hC⟩
theorem RBox.lt {C : Nat} {W : World} {d : Nat} {x0 x1 x2 x3 x5 x6 : Value} {l : List Bool} (h : RBox C W d x0 x1 x2 x3 x5 x6 l) : d < W.heap.size := by
  obtain ⟨a, c, h0, h1, h2⟩ := h
  exact boxLt h1
/-- Registers anew. -/
theorem rb_set {C d n : Nat} {a av : Option Addr} {c cv : Nat} {wb : World} {x0 x1 x2 x3 x5 x6 : Value} {l : List Bool} (hC : C ≤ d) (hm : wb.heap[d]? = some (.cells #[x0, x1, x2, x3, .slice a n c, x5, x6] 113 (0, 0)))
    (hown : wb.ownsRow C 4 1 (.slice av l.length cv) l.length (l.map .bool)) : RBox C (wb.setCell ⟨d, 4, none⟩ (.slice av l.length cv)) d x0 x1 x2 x3 x5 x6 l := by
  refine ⟨av, cv, hC, ?_, rowSet hown hm (by decide) _ _⟩
  rw [boxSet hm 4]
  simp
/-- One register more. -/
theorem rb_push {C d : Nat} {a av : Option Addr} {c cv : Nat} {w wr W1 wb : World} {x0 x1 x2 x3 x5 x6 : Value} {l : List Bool} {x : Bool} (hbm : C ≤ d) (hC : C ≤ w.heap.size)
    (hm : wr.heap[d]? = some (.cells #[x0, x1, x2, x3, .slice a l.length c, x5, x6] 113 (0, 0)))
    (hR : wr.ownsRow C 4 1 (.slice a l.length c) l.length (l.map .bool)) (hbe : Below C w wr)
    (hb : Below wr.heap.size wr W1) (hg : W1.grownBy wb (Value.slice a l.length c).ownBlock)
    (hown : wb.ownsRow C 4 1 (.slice av (l.length + 1) cv) (l.length + 1) (l.map .bool ++ [.bool x])) :
    wb.heap[d]? = some (.cells #[x0, x1, x2, x3, .slice a l.length c, x5, x6] 113 (0, 0)) ∧ Below C w wb ∧ RBox C (wb.setCell ⟨d, 4, none⟩ (.slice av (l.length + 1) cv)) d x0 x1 x2 x3 x5 x6 (l ++ [x]) ∧ Below C w (wb.setCell ⟨d, 4, none⟩ (.slice av (l.length + 1) cv)) := by
  have hm1 := (hb.block d (boxLt hm)).trans hm
  have hR1 := rowOld hR hb
  have hmb := boxCross hg hR1 hm1 (by decide)
  have hbw : Below C w wb := (hbe.trans (hb.mono (Nat.le_trans hC hbe.size))).grown hg (Nat.le_trans hC (Nat.le_trans hbe.size hb.size)) (fun k hk => (hR1.lt k hk).1)
  have e : (l ++ [x]).length = l.length + 1 := by simp
  have hown' : wb.ownsRow C 4 1 (.slice av (l ++ [x]).length cv) (l ++ [x]).length ((l ++ [x]).map .bool) := by
    rw [e, List.map_append]
    exact hown
  refine ⟨hmb, hbw, ?_, hbw.setCell hbm _⟩
  rw [← e]
  exact rb_set hbm hmb hown'

/-- What NewDevice hands back: a device .. -/
def RNewYes (L : LN) (x5 x6 : Value) (w : World) (e : Ending) (w' : World) : Prop :=
  ∃ a1 c1 a2 c2 a3 c3 A C d, e = .returned (.tuple #[.pointer (some ⟨d, 0, none⟩), .int .i64 0]) ∧ w.heap.size ≤ d ∧
    (∀ wx : World, (∀ k, w.heap.size ≤ k → k < d → wx.heap[k]? = w'.heap[k]?) → LnRows wx.heap.size wx ⟨a1, c1, a2, c2, a3, c3, A, C⟩ L) ∧
    RBox w.heap.size w' d (.int .i64 L.given) (.slice a1 L.regs.length c1) (.slice a2 L.luts.length c2) (.slice a3 L.outs.length c3) x5 x6 L.first ∧ Below w.heap.size w w'
/-- .. or an error. -/
def RNewPost (s : ByteArray) (ins outs : List Int) (x5 x6 : Value) (w : World) (e : Ending) (w' : World) : Prop :=
  if devErr s ins outs = 0 then RNewYes (run (bl s)).1 x5 x6 w e w' else e = .returned (.tuple #[.pointer none, .int .i64 (devErr s ins outs)]) ∧ Below w.heap.size w w'
theorem RNewPost.no {s : ByteArray} {ins outs : List Int} {x5 x6 : Value} {w w' : World} {k : Int} (h : devErr s ins outs = k) (hk : k ≠ 0) (hb : Below w.heap.size w w') : RNewPost s ins outs x5 x6 w (.returned (.tuple #[.pointer none, .int .i64 k])) w' := by
  subst h
  unfold RNewPost
  rw [if_neg hk]
  exact ⟨rfl, hb⟩
theorem RNewPost.yes {s : ByteArray} {ins outs : List Int} {x5 x6 : Value} {w w' : World} {e : Ending} {L : LN} (h : devErr s ins outs = 0) (hL : (run (bl s)).1 = L) (hy : RNewYes L x5 x6 w e w') : RNewPost s ins outs x5 x6 w e w' := by
  subst hL
  unfold RNewPost
  rw [if_pos h]
  exact hy
theorem devErr_in {s : ByteArray} {ins outs : List Int} (h : wAll ins = false) : devErr s ins outs = 1 := by
  unfold devErr; rw [if_neg (by rw [h]; simp)]
theorem devErr_out {s : ByteArray} {ins outs : List Int} (h : wAll outs = false) : devErr s ins outs = 1 := by
  unfold devErr; rw [if_neg (by rw [h]; simp)]
theorem devErr_form {s : ByteArray} {ins outs : List Int} (h1 : wAll ins = true) (h2 : wAll outs = true) (h3 : parses (bl s) = false) : devErr s ins outs = 3 := by
  unfold devErr; rw [if_pos ⟨h1, h2⟩, if_neg (by rw [h3]; simp)]
theorem devErr_range {s : ByteArray} {ins outs : List Int} {M : LN} (h1 : wAll ins = true) (h2 : wAll outs = true) (h3 : parses (bl s) = true) (hM : (run (bl s)).1 = M) (h4 : ¬ (M.given = (wTo ins ins.length : Nat) ∧ M.outs.length = wTo outs outs.length)) : devErr s ins outs = 2 := by
  unfold devErr; rw [if_pos ⟨h1, h2⟩, if_pos h3, hM, if_neg h4]
theorem devErr_none {s : ByteArray} {ins outs : List Int} {M : LN} (h1 : wAll ins = true) (h2 : wAll outs = true) (h3 : parses (bl s) = true) (hM : (run (bl s)).1 = M) (h4 : M.given = (wTo ins ins.length : Nat) ∧ M.outs.length = wTo outs outs.length) : devErr s ins outs = 0 := by
  unfold devErr; rw [if_pos ⟨h1, h2⟩, if_pos h3, hM, if_pos h4]

set_option maxRecDepth 100000 in
set_option maxHeartbeats 12800000 in
theorem RNew_any (B : Nat) (s : ByteArray) (ai ao : Option Addr) (n m ci co : Nat) (ins outs : List Int) (w : World) (hlen : s.size ≤ 1000000) (hB : B ≤ w.heap.size) (hni : ins.length = n) (hno : outs.length = m) (hn20 : n ≤ 20) (hm20 : m ≤ 20)
    (hci : Cells B w ai n (fun j => .int .i64 (ins.getD j 0))) (hco : Cells B w ao m (fun j => .int .i64 (outs.getD j 0))) :
    Calls Tryd.prog 23 #[.string s, .slice ai n ci, .slice ao m co] w (RNewPost s ins outs (.slice ai n ci) (.slice ao m co) w) := by
  obtain ⟨i0, hi, hz0, hz1, hz2⟩ := info_parts Tryd.lsInfoBool
  have HNI := hid hni
  have HNO := hid hno
  have HCI := hid hci
  have HCO := hid hco
  clear hni hno hci hco
  go_enter Tryd.func23, Tryd.ntmps23
  go_wp2
  go_loop [8, 21] (fun s i => ∃ k : Nat, k ≤ n ∧ i = .int .i64 k ∧ s = .int .i64 (wTo ins k : Nat) ∧ ∀ j, j < k → wd ins j ≠ 0) (fun _ i => n - (intOf i).toNat)
  case atStart => exact ⟨0, Nat.zero_le _, rfl, rfl, fun j hj => absurd hj (Nat.not_lt_zero _)⟩
  case round =>
    obtain ⟨k, hk, rfl, rfl, hall⟩ := hrel
    have HA := hid hall
    clear hall
    by_cases hlt : k < n
    · obtain ⟨b, off, rfl, hB', hcell⟩ := HCI.out.at (by omega)
      have hck := hcell k hlt
      have hwi := wd_int ins k
      have hwl := wd_le ins k
      have hto := wTo_le ins k
      have HE : Hid (wTo ins (k + 1) = wTo ins k + wd ins k) := rfl
      obtain ⟨x, hx⟩ : ∃ x, ins.getD k 0 = x := ⟨_, rfl⟩
      rw [hx] at hck hwi
      have HWI := hid hwi
      obtain ⟨d, hd⟩ : ∃ d, wd ins k = d := ⟨_, rfl⟩
      obtain ⟨t, ht⟩ : ∃ t, wTo ins k = t := ⟨_, rfl⟩
      rw [hd] at hwl
      rw [ht] at hto
      have HD := hid hd
      have HT := hid ht
      rw [ht]
      clear hcell hwi hd ht hx
      by_cases hz : d = 0
      · subst hz
        have HZ := hid (devErr_in (s := s) (outs := outs) (wAll_no HNI.out hlt HD.out))
        go_wp2_with (go_at_call 50; refine (rwidth_any _ _).mono ?_; rintro e w' ⟨rfl, rfl⟩; rw [HWI.out, HD.out])
        go_ret2
        exact RNewPost.no HZ.out (by decide) (Below.refl _ _)
      · have hz' : ¬ (d : Int) = 0 := by omega
        go_wp2_with (go_at_call 50; refine (rwidth_any _ _).mono ?_; rintro e w' ⟨rfl, rfl⟩; rw [HWI.out, HD.out])
        go_round
        case rel =>
          refine ⟨k + 1, hlt, by go_num, val_int (by rw [HE.out, HT.out, HD.out]; omega), fun j hj => ?_⟩
          by_cases h : j < k
          · exact HA.out j h
          · obtain rfl : j = k := by omega
            rw [HD.out]
            exact hz
        case measure => simp [intOf]; omega
    · obtain rfl : k = n := by omega
      have HAI := hid (wAll_yes HNI.out HA.out)
      obtain ⟨ti, hti⟩ : ∃ t, wTo ins k = t := ⟨_, rfl⟩
      have HTI := hid hti
      rw [hti]
      clear hti HA hk hlt
      go_wp2
      go_loop [9, 35] (fun s i => ∃ j : Nat, j ≤ m ∧ i = .int .i64 j ∧ s = .int .i64 (wTo outs j : Nat) ∧ ∀ q, q < j → wd outs q ≠ 0) (fun _ i => m - (intOf i).toNat)
      case atStart => exact ⟨0, Nat.zero_le _, rfl, rfl, fun j hj => absurd hj (Nat.not_lt_zero _)⟩
      case round =>
        obtain ⟨j, hj, rfl, rfl, hall⟩ := hrel
        have HA := hid hall
        clear hall
        by_cases hlt : j < m
        · obtain ⟨b, off, rfl, hB', hcell⟩ := HCO.out.at (by omega)
          have hck := hcell j hlt
          have hwi := wd_int outs j
          have hwl := wd_le outs j
          have hto := wTo_le outs j
          have HE : Hid (wTo outs (j + 1) = wTo outs j + wd outs j) := rfl
          obtain ⟨x, hx⟩ : ∃ x, outs.getD j 0 = x := ⟨_, rfl⟩
          rw [hx] at hck hwi
          have HWI := hid hwi
          obtain ⟨d, hd⟩ : ∃ d, wd outs j = d := ⟨_, rfl⟩
          obtain ⟨t, ht⟩ : ∃ t, wTo outs j = t := ⟨_, rfl⟩
          rw [hd] at hwl
          rw [ht] at hto
          have HD := hid hd
          have HT := hid ht
          rw [ht]
          clear hcell hwi hd ht hx
          by_cases hz : d = 0
          · subst hz
            have HZ := hid (devErr_out (s := s) (ins := ins) (wAll_no HNO.out hlt HD.out))
            go_wp2_with (go_at_call 50; refine (rwidth_any _ _).mono ?_; rintro e w' ⟨rfl, rfl⟩; rw [HWI.out, HD.out])
            go_ret2
            exact RNewPost.no HZ.out (by decide) (Below.refl _ _)
          · have hz' : ¬ (d : Int) = 0 := by omega
            go_wp2_with (go_at_call 50; refine (rwidth_any _ _).mono ?_; rintro e w' ⟨rfl, rfl⟩; rw [HWI.out, HD.out])
            go_round
            case rel =>
              refine ⟨j + 1, hlt, by go_num, val_int (by rw [HE.out, HT.out, HD.out]; omega), fun q hq => ?_⟩
              by_cases h : q < j
              · exact HA.out q h
              · obtain rfl : q = j := by omega
                rw [HD.out]
                exact hz
            case measure => simp [intOf]; omega
        · obtain rfl : j = m := by omega
          have HAO := hid (wAll_yes HNO.out HA.out)
          obtain ⟨tu, hto⟩ : ∃ t, wTo outs j = t := ⟨_, rfl⟩
          have HTO := hid hto
          rw [hto]
          clear hto HA hj hlt
          cases hp : parses (bl s)
          · have HZ := hid (devErr_form HAI.out HAO.out hp)
            have HP := hid hp
            clear hp
            go_upto_region 17 with (go_at_call 11; (with_reducible refine (dp_no s hlen w HP.out).mono ?_); rintro e w1 ⟨rfl, hb⟩; have HB1 := hid hb; clear hb)
            have HB2 := hid (HB1.out.alloc HB1.out.size (.cells #[.int .i64 0, .slice none 0 0, .slice none 0 0, .slice none 0 0] 30))
            go_wp2_with fail
            go_ret2
            exact RNewPost.no HZ.out (by decide) HB2.out
          · obtain ⟨M, hM⟩ : ∃ M, (run (bl s)).1 = M := ⟨_, rfl⟩
            have HM := hid hM
            have HP := hid hp
            obtain ⟨mr, hMr⟩ : ∃ n, M.regs.length = n := ⟨_, rfl⟩
            obtain ⟨ml, hMl⟩ : ∃ n, M.luts.length = n := ⟨_, rfl⟩
            obtain ⟨mo, hMo⟩ : ∃ n, M.outs.length = n := ⟨_, rfl⟩
            obtain ⟨mg, hMg⟩ : ∃ n, M.given = n := ⟨_, rfl⟩
            have HMR := hid hMr
            have HML := hid hMl
            have HMO := hid hMo
            have HMG := hid hMg
            have RP := dp_yes s hlen w hp M hM
            rw [hMr, hMl, hMo, hMg] at RP
            have HRP := hid RP
            have hright : M.right = true := by
              have h := hp
              unfold parses at h
              simp only [Bool.and_eq_true] at h
              rw [← hM]
              exact h.2
            have GD := LN.good hright
            have hr1 := GD.r1
            have ho1 := GD.o1
            rw [hMr] at hr1
            rw [hMo] at ho1
            have HQ := hid (show (M.given = (wTo ins ins.length : Nat) ∧ M.outs.length = wTo outs outs.length) ↔ (mg = (ti : Int) ∧ mo = tu) by rw [HNI.out, HNO.out, HTI.out, HTO.out, hMg, hMo])
            clear RP hM hMr hMl hMo hMg hp GD hright
            go_upto_region 17 with (go_at_call 11; (with_reducible refine HRP.out.mono ?_); rintro e w1 ⟨p1, q1, p2, q2, p3, q3, PA, PC, rfl, hrows, hb⟩; have HROWS := hid hrows; have HB1 := hid hb; clear hrows hb)
            have HB2 := hid (HB1.out.alloc HB1.out.size (.cells #[.int .i64 mg, .slice p1 mr q1, .slice p2 ml q2, .slice p3 mo q3] 30))
            have HBA := hid (show Below w1.heap.size w1 (w1.alloc (.cells #[.int .i64 mg, .slice p1 mr q1, .slice p2 ml q2, .slice p3 mo q3] 30)) from (Below.refl _ _).alloc (Nat.le_refl _) _)
            have hbox1 : (w1.alloc (.cells #[.int .i64 mg, .slice p1 mr q1, .slice p2 ml q2, .slice p3 mo q3] 30)).heap[w1.heap.size]? = some (.cells #[.int .i64 mg, .slice p1 mr q1, .slice p2 ml q2, .slice p3 mo q3] 30 (0, 0)) := alloc_at _ _
            have hsz2 : (w1.alloc (.cells #[.int .i64 mg, .slice p1 mr q1, .slice p2 ml q2, .slice p3 mo q3] 30)).heap.size = w1.heap.size + 1 := by simp
            generalize w1.alloc (.cells #[.int .i64 mg, .slice p1 mr q1, .slice p2 ml q2, .slice p3 mo q3] 30) = w2 at *
            have x0 : w2.cell? ⟨w1.heap.size, 0, none⟩ = some (.int .i64 mg) := (cell_block hbox1 0).trans rfl
            have x1 : w2.cell? ⟨w1.heap.size, 1, none⟩ = some (.slice p1 mr q1) := (cell_block hbox1 1).trans rfl
            have x2 : w2.cell? ⟨w1.heap.size, 2, none⟩ = some (.slice p2 ml q2) := (cell_block hbox1 2).trans rfl
            have x3 : w2.cell? ⟨w1.heap.size, 3, none⟩ = some (.slice p3 mo q3) := (cell_block hbox1 3).trans rfl
            have HSZ2 := hid hsz2
            have HBOX1 := hid hbox1
            clear hbox1 hsz2
            by_cases hg : mg = (ti : Int)
            · subst hg
              by_cases ho : mo = tu
              · obtain rfl : tu = mo := ho.symm
                have HZ := hid (devErr_none HAI.out HAO.out HP.out HM.out (HQ.out.2 ⟨rfl, rfl⟩))
                clear ho
                go_upto_region 22 with fail
                have hsz1 : w1.heap.size < w2.heap.size := by have := HSZ2.out; omega
                have HB3 := hid (HB2.out.alloc HB2.out.size (.cells #[.int .i64 ti, .slice p1 mr q1, .slice p2 ml q2, .slice p3 tu q3, .slice none 0 0, .slice ai k ci, .slice ao j co] 113))
                have HBC := hid (show Below w2.heap.size w2 (w2.alloc (.cells #[.int .i64 ti, .slice p1 mr q1, .slice p2 ml q2, .slice p3 tu q3, .slice none 0 0, .slice ai k ci, .slice ao j co] 113)) from (Below.refl _ _).alloc (Nat.le_refl _) _)
                have HS0 := hid (show RBox w2.heap.size (w2.alloc (.cells #[.int .i64 ti, .slice p1 mr q1, .slice p2 ml q2, .slice p3 tu q3, .slice none 0 0, .slice ai k ci, .slice ao j co] 113)) w2.heap.size (.int .i64 ti) (.slice p1 mr q1) (.slice p2 ml q2) (.slice p3 tu q3) (.slice ai k ci) (.slice ao j co) (M.first.take 0) from ⟨none, 0, Nat.le_refl _, alloc_at _ _, World.ownsRow_nil _ _ _ _⟩)
                have hsz3 : (w2.alloc (.cells #[.int .i64 ti, .slice p1 mr q1, .slice p2 ml q2, .slice p3 tu q3, .slice none 0 0, .slice ai k ci, .slice ao j co] 113)).heap.size = w2.heap.size + 1 := by simp
                generalize w2.alloc (.cells #[.int .i64 ti, .slice p1 mr q1, .slice p2 ml q2, .slice p3 tu q3, .slice none 0 0, .slice ai k ci, .slice ao j co] 113) = w3 at *
                have y0 := (HBC.out.cell (p := ⟨w1.heap.size, 1, none⟩) hsz1).trans x1
                have hsz13 : w1.heap.size < w3.heap.size := by omega
                obtain ⟨d, hd⟩ : ∃ z, w2.heap.size = z := ⟨_, rfl⟩
                have HROWS3 := hid (show ∀ wx : World, (∀ k, w.heap.size ≤ k → k < d → wx.heap[k]? = w3.heap[k]?) → LnRows wx.heap.size wx ⟨p1, q1, p2, q2, p3, q3, PA, PC⟩ M from fun wx h => HROWS.out wx fun k h1 h2 => (h k h1 (by omega)).trans ((HBC.out.block k (by omega)).trans (HBA.out.block k h2)))
                have hCd : w.heap.size ≤ d := by rw [← hd]; exact HB2.out.size
                have HD3 := hid (show d + 1 = w3.heap.size by omega)
                rw [hd] at HS0
                (try rw [hd])
                clear hd hsz3 x0 x1 x2 x3 HBC HBA HSZ2 HBOX1 hsz1
                go_wp2_with fail
                clear y0
                go_loopw [78] (fun v wr => ∃ i : Nat, i ≤ mr ∧ v = .int .i64 i ∧ RBox d wr d (.int .i64 ti) (.slice p1 mr q1) (.slice p2 ml q2) (.slice p3 tu q3) (.slice ai k ci) (.slice ao j co) (M.first.take i) ∧ Below d w3 wr) (fun v _ => mr - (intOf v).toNat)
                case atStart => exact ⟨0, Nat.zero_le _, rfl, HS0.out, Below.refl _ _⟩
                case round =>
                  obtain ⟨i, hle, rfl, hsim, hbe⟩ := hrel
                  have hszr := hbe.size
                  have h' := HROWS3.out wr fun q _ h2 => hbe.block q h2
                  by_cases hlt : i < mr
                  · obtain ⟨b1, off, har, hb1, d0, d1⟩ := Cells.two h'.rr i (by rw [HMR.out]; exact hlt)
                    simp only at har
                    rw [har]
                    rw [regCell_0] at d0
                    rw [regCell_1] at d1
                    obtain ⟨x, hx⟩ : ∃ x, M.regs.getD i LR.zero = x := ⟨_, rfl⟩
                    rw [hx] at d0 d1
                    have htk : M.first.take (i + 1) = M.first.take i ++ [x.init] := by
                      have hl : i < M.regs.length := by rw [HMR.out]; exact hlt
                      have hl2 : i < M.first.length := by rw [M.first_len]; exact hl
                      rw [List.take_succ_eq_append_getElem hl2]
                      rw [← hx]
                      simp [LN.first, List.getD_eq_getElem?_getD, hl]
                    obtain ⟨xi, xn⟩ := x
                    simp only at d0 d1 htk
                    have hlen2 : (M.first.take i).length = i := by have := HMR.out; have := M.first_len; simp; omega
                    obtain ⟨a, c, hbs, hm, hrow⟩ := hsim
                    have HM2 := hid hm
                    have HROW := hid hrow
                    have HBE := hid hbe
                    have HLEN := hid hlen2
                    have HTK := hid htk
                    have hb1r : b1 < wr.heap.size := by omega
                    have hbsr := boxLt hm
                    have hrow' : wr.ownsRow d 4 1 (.slice a i c) i ((M.first.take i).map .bool) := by rw [hlen2] at hrow; exact hrow
                    have HROW' := hid hrow'
                    have hkI : ((i : Nat) : Int) < (mr : Int) := by omega
                    have cc : wr.cell? ⟨d, 4, none⟩ = some (.slice a i c) := by rw [hlen2] at hm; exact (cell_block hm 4).trans rfl
                    have HBW := hid (show Below wr.heap.size wr (wr.alloc (.cells #[.bool xi, .int .i64 xn] 87)) from (Below.refl _ _).alloc (Nat.le_refl _) _)
                    have e0 : (wr.alloc (.cells #[.bool xi, .int .i64 xn] 87)).cell? ⟨wr.heap.size, 0, none⟩ = some (.bool xi) := (cell_new _ _ _ _).trans rfl
                    have f0 := (HBW.out.cell (p := ⟨d, 4, none⟩) hbsr).trans cc
                    have HSW := hid (show (wr.alloc (.cells #[.bool xi, .int .i64 xn] 87)).heap.size = wr.heap.size + 1 by simp)
                    clear h' hx hm hrow hrow' hbe hlen2 htk HS0
                    go_upto_region 25 with fail
                    have hsr : d < (wr.alloc (.cells #[.bool xi, .int .i64 xn] 87)).heap.size := by have := HSW.out; omega
                    have hrr : wr.heap.size < (wr.alloc (.cells #[.bool xi, .int .i64 xn] 87)).heap.size := by have := HSW.out; omega
                    clear cc d0 d1
                    generalize wr.alloc (.cells #[.bool xi, .int .i64 xn] 87) = wq at *
                    refine wpEnds.begin (fun w' => w'.cell? ⟨d, 4, none⟩ = some (.slice a i c) ∧ w'.cell? ⟨wr.heap.size, 0, none⟩ = some (.bool xi)) 11 (by kernel_rfl) ⟨f0, e0⟩ (fun hHeld => ?_)
                    refine wpEnds.take 0 12 (v := ?va0) rfl (by kernel_rfl) (by kernel_rfl) (by kernel_rfl) (by kernel_rfl) (by kernel_rfl) (fun _ _ _ h => h) (by rfl) hHeld (fun w' hSw => ?hya0) ?resta0
                    case hya0 => ((try dsimp only at hSw); go_simp; try with_reducible rfl)
                    case resta0 =>
                    (try simp only [Act.put, List.setIfInBounds_toArray, List.set_cons_zero, List.set_cons_succ])
                    refine wpEnds.take 1 12 (v := ?va1) rfl (by kernel_rfl) (by kernel_rfl) (by kernel_rfl) (by kernel_rfl) (by kernel_rfl) (fun _ _ _ h => h) (by rfl) hHeld (fun w' hSw => ?hya1) ?resta1
                    case hya1 => ((try dsimp only at hSw); go_simp; try with_reducible rfl)
                    case resta1 =>
                    (try simp only [Act.put, List.setIfInBounds_toArray, List.set_cons_zero, List.set_cons_succ])
                    refine wpEnds.take 2 12 (v := ?va2) rfl (by kernel_rfl) (by kernel_rfl) (by kernel_rfl) (by kernel_rfl) (by kernel_rfl) (fun _ _ _ h => h) (by rfl) hHeld (fun w' hSw => ?hya2) ?resta2
                    case hya2 => ((try dsimp only at hSw); go_simp; try with_reducible rfl)
                    case resta2 =>
                    (try simp only [Act.put, List.setIfInBounds_toArray, List.set_cons_zero, List.set_cons_succ])
                    refine wpEnds.take 3 12 (v := ?va3) rfl (by kernel_rfl) (by kernel_rfl) (by kernel_rfl) (by kernel_rfl) (by kernel_rfl) (fun _ _ _ h => h) (by rfl) hHeld (fun w' hSw => ?hya3) ?resta3
                    case hya3 => ((try dsimp only at hSw); go_simp; try with_reducible rfl)
                    case resta3 =>
                    (try simp only [Act.put, List.setIfInBounds_toArray, List.set_cons_zero, List.set_cons_succ])
                    refine wpEnds.take 4 12 (v := ?va4) rfl (by kernel_rfl) (by kernel_rfl) (by kernel_rfl) (by kernel_rfl) (by kernel_rfl) (fun _ _ _ h => h) (by rfl) hHeld (fun w' hSw => ?hya4) ?resta4
                    case hya4 => ((try dsimp only at hSw); go_simp; try with_reducible rfl)
                    case resta4 =>
                    (try simp only [Act.put, List.setIfInBounds_toArray, List.set_cons_zero, List.set_cons_succ])
                    refine wpEnds.take 5 12 (v := ?va5) rfl (by kernel_rfl) (by kernel_rfl) (by kernel_rfl) (by kernel_rfl) (by kernel_rfl) (fun _ _ _ h => h) (by rfl) hHeld (fun w' hSw => ?hya5) ?resta5
                    case hya5 => ((try dsimp only at hSw); go_simp; try with_reducible rfl)
                    case resta5 =>
                    (try simp only [Act.put, List.setIfInBounds_toArray, List.set_cons_zero, List.set_cons_succ])
                    refine wpEnds.take 6 12 (v := ?va6) rfl (by kernel_rfl) (by kernel_rfl) (by kernel_rfl) (by kernel_rfl) (by kernel_rfl) (fun _ _ _ h => h) (by rfl) hHeld (fun w' hSw => ?hya6) ?resta6
                    case hya6 => ((try dsimp only at hSw); go_simp; try with_reducible rfl)
                    case resta6 =>
                    (try simp only [Act.put, List.setIfInBounds_toArray, List.set_cons_zero, List.set_cons_succ])
                    refine wpEnds.one 7 (by kernel_rfl) rfl (fun K hK => ?_)
                    go_simp
                    refine hK.out _ _ ⟨((ls_alloc _ _).cell hsr).trans f0, ((ls_alloc _ _).cell hrr).trans e0⟩ ?_
                    clear hK K
                    (try simp only [Act.put, List.setIfInBounds_toArray, List.set_cons_zero, List.set_cons_succ])
                    refine wpEnds.one 8 (by kernel_rfl) rfl (fun K hK => ?_)
                    refine append_held (by rfl) _ _ 62 (by rfl) d 4 i0 _ 1 1 Tryd.underlying62 hi hz0 hz1 hz2 (by rfl) (by decide) (.slice a i c) i ((M.first.take i).map .bool) (by rfl) ((rowOld HROW'.out (HBW.out.trans ((ls_alloc wq _).mono HBW.out.size)))) (some ⟨wq.heap.size, 0, none⟩) 1 1 [.bool xi] (by rfl) (by intro h; cases h) (by rfl) (by rintro ad' h j u hj'; cases h; rw [Addr.add_at]; exact (cell_new _ _ _ _).trans (by simpa using hj')) (by simp [Value.oneCell']) (by unfold maxLen; omega) (by omega) (by have := HBE.out.size; have := HSW.out; have := HD3.out; simp; omega) ?_
                    intro av1 cv1 wb HPO HRN hgb
                    have P := rb_push hbs (show d ≤ w3.heap.size by have := HD3.out; omega) HM2.out HROW.out HBE.out (HBW.out.trans ((ls_alloc wq _).mono HBW.out.size)) (by have h := hgb.out; rw [HLEN.out]; exact h) (by have h := HRN.out; rw [HLEN.out]; exact h)
                    rw [HLEN.out] at P
                    obtain ⟨P1, P2, P3, P4⟩ := P
                    have cb : wb.cell? ⟨d, 4, none⟩ = some (.slice a i c) := (cell_block P1 4).trans rfl
                    have hbfr := free_block P1
                    have hblt := boxLt P1
                    have HEND := hid P3
                    have HEB := hid P4
                    have y0 : wb.cell? ⟨wr.heap.size, 0, none⟩ = some (.bool xi) := by
                      have hne : (Value.slice a i c).ownBlock ≠ some wr.heap.size := fun e => by have := (HROW'.out.lt _ e).2; omega
                      exact (World.grownBy.cell_far hgb.out ⟨wr.heap.size, 0, none⟩ (Nat.lt_of_lt_of_le hrr (ls_alloc wq _).size) (fun e => hne e.symm)).trans (((ls_alloc _ _).cell hrr).trans e0)
                    clear P1 P2 P3 P4 HPO HRN hgb
                    refine hK.out _ _ ⟨cb, y0⟩ ?_
                    clear hK K
                    (try simp only [Act.put, List.setIfInBounds_toArray, List.set_cons_zero, List.set_cons_succ])
                    refine wpEnds.take 9 12 (v := ?va9) rfl (by kernel_rfl) (by kernel_rfl) (by kernel_rfl) (by kernel_rfl) (by kernel_rfl) (fun _ _ _ h => h) (by rfl) ⟨cb, y0⟩ (fun w' hSw => ?hya9) ?resta9
                    case hya9 => ((try dsimp only at hSw); go_simp; try with_reducible rfl)
                    case resta9 =>
                    (try simp only [Act.put, List.setIfInBounds_toArray, List.set_cons_zero, List.set_cons_succ])
                    refine wpEnds.take 10 12 (v := ?va10) rfl (by kernel_rfl) (by kernel_rfl) (by kernel_rfl) (by kernel_rfl) (by kernel_rfl) (fun _ _ _ h => h) (by rfl) ⟨cb, y0⟩ (fun w' hSw => ?hya10) ?resta10
                    case hya10 => ((try dsimp only at hSw); go_simp; try with_reducible rfl)
                    case resta10 =>
                    (try simp only [Act.put, List.setIfInBounds_toArray, List.set_cons_zero, List.set_cons_succ])
                    refine wpEnds.last 11 (by kernel_rfl) (by kernel_rfl) rfl (fun K hK => ?_)
                    go_simp
                    refine hK.out _ _ ?_
                    clear hK K
                    (try simp only [Act.put, List.setIfInBounds_toArray, List.set_cons_zero, List.set_cons_succ])
                    go_wp2_with fail
                    go_roundw
                    case rel => exact ⟨i + 1, hlt, by go_num, by rw [HTK.out]; have h := HEND.out; rw [har] at h; exact h, HEB.out⟩
                    case measure => simp [intOf]; omega
                  · obtain rfl : mr = i := by omega
                    have hall : M.first.take mr = M.first := List.take_of_length_le (by rw [M.first_len, HMR.out]; exact Nat.le_refl _)
                    rw [hall] at hsim
                    have HSIM := hid hsim
                    clear h' hsim HS0 hall
                    go_wp2_with fail
                    go_ret2
                    refine RNewPost.yes HZ.out HM.out ⟨p1, q1, p2, q2, p3, q3, PA, PC, d, rfl, hCd, fun wx h => HROWS3.out wx fun q h1 h2 => (h q h1 h2).trans (hbe.block q h2), ?_, HB3.out.trans (hbe.mono hCd)⟩
                    rw [HMG.out, HMR.out, HML.out, HMO.out]
                    exact HSIM.out.base hCd
              · have hne : ¬ ((mo : Int) = (tu : Int)) := by omega
                have dn : decide ((mo : Int) = (tu : Int)) = false := decide_eq_false hne
                have HZ := hid (devErr_range HAI.out HAO.out HP.out HM.out (fun h => ho (HQ.out.1 h).2))
                clear ho
                go_wp2_with fail
                go_ret2
                exact RNewPost.no HZ.out (by decide) HB2.out
            · have dn : decide (mg = (ti : Int)) = false := decide_eq_false hg
              have HZ := hid (devErr_range HAI.out HAO.out HP.out HM.out (fun h => hg (HQ.out.1 h).1))
              go_wp2_with fail
              go_ret2
              exact RNewPost.no HZ.out (by decide) HB2.out
end Go.Proofs.YtlaeflpddehipabDoor

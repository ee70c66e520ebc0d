/- image.Parse, walked. -/
import Derived.Test.YtlaeflpddehipabDoorParseMem
import Derived.Deep.DeepCutAuto
import Derived.Deep.RegionLaw
set_option linter.unusedVariables false
namespace Go.Proofs.YtlaeflpddehipabDoor
open Go.RowKit
attribute [local go_sem ↓] Go.wp_at_zero Go.wp_at_succ

/-- What Parse hands back. -/
def ParseYes (s : ByteArray) (w : World) (e : Ending) (w' : World) : Prop :=
  ∃ bn y, e = .returned (.tuple #[.pointer (some ⟨bn, 0, none⟩), .nilIface]) ∧ LnIn w'.heap.size w' bn y (run (bl s)).1 ∧ Below w.heap.size w w'
def ParseNo (w : World) (e : Ending) (w' : World) : Prop := e = .returned (.tuple #[.pointer none, .iface 33 (.int .i64 3)]) ∧ Below w.heap.size w w'
def ParsePost (s : ByteArray) (w : World) (e : Ending) (w' : World) : Prop :=
  if parses (bl s) = true then ParseYes s w e w' else ParseNo w e w'
theorem ParsePost.yes {s : ByteArray} {w w' : World} {e : Ending} (hp : parses (bl s) = true) (h : ParseYes s w e w') : ParsePost s w e w' := by
  unfold ParsePost; rw [if_pos hp]; exact h
theorem ParsePost.no {s : ByteArray} {w w' : World} {e : Ending} (hp : parses (bl s) = false) (h : ParseNo w e w') : ParsePost s w e w' := by
  unfold ParsePost; rw [if_neg (by rw [hp]; decide)]; exact h

/-- The same, with where the net was made. -/
def ParseYesS (s : ByteArray) (w : World) (e : Ending) (w' : World) : Prop :=
  ∃ bn y, e = .returned (.tuple #[.pointer (some ⟨bn, 0, none⟩), .nilIface]) ∧ w.heap.size ≤ bn ∧ bn < w'.heap.size ∧ (∀ wx : World, (∀ k, w.heap.size ≤ k → k < w'.heap.size → wx.heap[k]? = w'.heap[k]?) → LnIn wx.heap.size wx bn y (run (bl s)).1) ∧ Below w.heap.size w w'
def ParsePostS (s : ByteArray) (w : World) (e : Ending) (w' : World) : Prop :=
  if parses (bl s) = true then ParseYesS s w e w' else ParseNo w e w'
theorem ParsePostS.yes {s : ByteArray} {w w' : World} {e : Ending} (hp : parses (bl s) = true) (h : ParseYesS s w e w') : ParsePostS s w e w' := by
  unfold ParsePostS; rw [if_pos hp]; exact h
theorem ParsePostS.no {s : ByteArray} {w w' : World} {e : Ending} (hp : parses (bl s) = false) (h : ParseNo w e w') : ParsePostS s w e w' := by
  unfold ParsePostS; rw [if_neg (by rw [hp]; decide)]; exact h

theorem run2_le (s : List Nat) : (run2 s).1 ≤ 20000 := rdMany_le _
theorem run4_le (s : List Nat) : (run4 s).1 ≤ 20000 := rdMany_le _
theorem run6_le (s : List Nat) : (run6 s).1 ≤ 20000 := rdMany_le _

/-- The loop over registers: so far. -/
def RegsRel (w : World) (br bn n K : Nat) (g : Int) (st0 : Rd) (s17 : Value) (wr : World) : Prop :=
  ∃ (i : Nat) (rs : List LR) (st : Rd) (y : Lay), i ≤ K ∧ s17 = .int .i64 i ∧ rs.length = i ∧ rdRegs K st0 = (rs ++ (rdRegs (K - i) st).1, (rdRegs (K - i) st).2) ∧ (y.ao = none ∧ y.co = 0) ∧ Mk w bn y ⟨g, rs, [], []⟩ wr ∧ Rdr wr br st n
def LutsRel (w : World) (br bn n K : Nat) (g : Int) (rs : List LR) (st0 : Rd) (s49 : Value) (wr : World) : Prop :=
  ∃ (i : Nat) (ls : List LT) (st : Rd) (y : Lay), i ≤ K ∧ s49 = .int .i64 i ∧ ls.length = i ∧ rdLuts K st0 = (ls ++ (rdLuts (K - i) st).1, (rdLuts (K - i) st).2) ∧ (y.ao = none ∧ y.co = 0) ∧ Mk w bn y ⟨g, rs, ls, []⟩ wr ∧ Rdr wr br st n
def InsRel (wr : World) (br bt n K : Nat) (st0 : Rd) (s54 : Value) (wx : World) : Prop :=
  ∃ (i : Nat) (ns : List Int) (st : Rd) (ai : Option Addr) (ci : Nat), i ≤ K ∧ s54 = .int .i64 i ∧ ns.length = i ∧ rdInts K st0 = (ns ++ (rdInts (K - i) st).1, (rdInts (K - i) st).2) ∧ Ins wr br bt ai ci ns wx ∧ Rdr wx br st n
def OutsRel (w w3 : World) (br bn n K : Nat) (y0 : Lay) (g : Int) (rs : List LR) (ls : List LT) (st0 : Rd) (s80 : Value) (wx : World) : Prop :=
  ∃ (i : Nat) (os : List Int) (st : Rd) (ao : Option Addr) (co : Nat), i ≤ K ∧ s80 = .int .i64 i ∧ os.length = i ∧ rdInts K st0 = (os ++ (rdInts (K - i) st).1, (rdInts (K - i) st).2) ∧ Out w w3 br bn { y0 with ao := ao, co := co } ⟨g, rs, ls, os⟩ wx ∧ Rdr wx br st n
theorem rdReg_two (st : Rd) : rdReg st = (⟨(rd st).1 == 1, (rd ((rd st).2.1, (rd st).2.2 || decide (1 < (rd st).1))).1⟩, (rd ((rd st).2.1, (rd st).2.2 || decide (1 < (rd st).1))).2) := rfl
theorem bytesNe (s : ByteArray) (l : List UInt8) (h : ¬ s = ⟨l.toArray⟩) : (s.toList == l) = false := by
  rw [beq_eq_false_iff_ne]
  intro e
  apply h
  rw [ByteArray.toList_eq] at e
  subst e
  cases s
  simp
theorem alloc_below (w : World) (o : Obj) : Below w.heap.size w (w.alloc o) := (Below.refl _ _).alloc (Nat.le_refl _) o
theorem alloc_below_drew (w : World) (o : Obj) : Below w.heap.size w (w.alloc o).drew := (alloc_below w o).drew

set_option maxRecDepth 100000 in
set_option maxHeartbeats 12800000 in
theorem Parse_seg (s : ByteArray) (hlen : s.size ≤ 1000000) (w : World) : Calls Tryd.prog 12 #[.string s] w (ParsePostS s w) := by
  obtain ⟨i0, hi, hz0, hz1, hz2⟩ := info_parts Tryd.infoReg
  obtain ⟨i1, hi1, hy0, hy1, hy2⟩ := info_parts Tryd.infoLut
  obtain ⟨i2, hi2, hx0, hx1, hx2⟩ := info_parts Tryd.infoOutInt
  obtain ⟨br, hbr⟩ : ∃ b, w.heap.size = b := ⟨_, rfl⟩
  have R0 : Rdr (w.alloc (.cells #[.string s, .bool false] 105)) br (bl s, false) s.size := ⟨s, false, by rw [← hbr]; exact box_new _ _, rfl, Nat.le_refl _⟩
  have HR0 := hid R0
  have B0 := hid (alloc_below w (.cells #[.string s, .bool false] 105))
  have HBR := hid hbr
  have E1 : Hid (rd (bl s, false) = run1 (bl s)) := rfl
  have hbrI : w.heap.size ≤ br := by omega
  clear R0 hbr
  go_enter Tryd.func12, Tryd.ntmps12
  go_upto_region 2 with fail
  rw [HBR.out]
  go_upto_region 3 with (go_at_call 45; (with_reducible refine (number_at br (bl s, false) s.size hlen _ _ (Below.refl _ _) HR0.out).mono ?_); rintro e w1 ⟨rfl, hr1, hg1⟩; rw [E1.out] at hr1 ⊢; have HR1 := hid hr1; have HG1 := hid hg1; have B1 := hid (B0.out.trans (belowGrown hg1 B0.out.size hbrI)); clear hr1 hg1)
  obtain ⟨g, hg⟩ : ∃ g, (((run1 (bl s)).1 : Nat) : Int) = g := ⟨_, rfl⟩
  rw [hg]
  obtain ⟨bn, hbn⟩ : ∃ b, w1.heap.size = b := ⟨_, rfl⟩
  have B2 := B1.out.trans ((alloc_below w1 (.cells #[.int .i64 g, .slice none 0 0, .slice none 0 0, .slice none 0 0] 26)).mono B1.out.size)
  have M0 := Mk.start (w0 := w) (bn := bn) (g := g) (by rw [← hbn]; exact B1.out.size) (by rw [← hbn]; exact box_new w1 _) B2
  have R2 := HR1.out.stay (alloc_below w1 (.cells #[.int .i64 g, .slice none 0 0, .slice none 0 0, .slice none 0 0] 26))
  rw [hbn]
  generalize w1.alloc (.cells #[.int .i64 g, .slice none 0 0, .slice none 0 0, .slice none 0 0] 26) = w2 at *
  obtain ⟨K, hK⟩ : ∃ K, (run2 (bl s)).1 = K := ⟨_, rfl⟩
  have hK2 : K ≤ 20000 := by rw [← hK]; exact run2_le _
  have HG := hid hg
  have HK := hid hK
  have HM0 := hid M0
  have HR2 := hid R2
  have E2 : Hid (rdMany (run1 (bl s)).2 = run2 (bl s)) := rfl
  clear hg hbn B2 M0 R2 hK E1 HR0 HG1 HR1 B0 HBR
  go_wp2_with (go_at_call 46; (with_reducible refine (many_at br (run1 (bl s)).2 s.size hlen _ _ (Below.refl _ _) HR2.out).mono ?_); rintro e w3 ⟨rfl, hr3, hg3⟩; rw [E2.out] at hr3 ⊢; rw [HK.out]; have HM3 := hid (HM0.out.read HR2.out hbrI hg3); have HR3 := hid hr3; clear hr3 hg3)
  obtain ⟨st2, hst2⟩ : ∃ x, (run2 (bl s)).2 = x := ⟨_, rfl⟩
  have HST2 := hid hst2
  rw [hst2] at HR3
  clear hst2 HM0 HR2 E2
  go_loopw [17] (fun s17 wr => RegsRel w br bn s.size K g st2 s17 wr) (fun s17 _ => K - (intOf s17).toNat)
  case atStart => exact ⟨0, [], st2, _, Nat.zero_le _, rfl, rfl, by simp, ⟨rfl, rfl⟩, HM3.out, HR3.out⟩
  case round =>
    obtain ⟨i, rs, st, y, hle, rfl, hrs, hrd, hy, hm, hr⟩ := hrel
    have HM := hid hm
    have HR := hid hr
    have HRD := hid hrd
    have HY := hid hy
    have HRS := hid hrs
    clear hm hr hrd hy hrs HM3 HR3
    by_cases hlt : i < K
    · have hltI : (i : Int) < (K : Int) := by omega
      obtain ⟨f, hf⟩ : ∃ f, (rd st).1 = f := ⟨_, rfl⟩
      obtain ⟨st6, hst6⟩ : ∃ x, ((rd st).2.1, (rd st).2.2 || decide (1 < f)) = x := ⟨_, rfl⟩
      have HF := hid hf
      have HST6 := hid hst6
      clear hf hst6
      --[stub
      go_upto_region 6 with (go_at_call 45; (with_reducible refine (number_at br st s.size hlen _ _ (Below.refl _ _) HR.out).mono ?_); rintro e w5 ⟨rfl, hr5, hg5⟩; rw [HF.out]; have HM5 := hid (HM.out.read HR.out hbrI hg5); have HR5 := hid hr5; clear hr5 hg5)
      go_cut [] (fun wx => Rdr wx br st6 s.size ∧ w5.grownBy wx (some br))
      case first =>
        obtain ⟨s5, b5, hx5, hst5, hz5⟩ := HR5.out
        have c1 := cell_block hx5 1
        simp only [List.getElem?_toArray, List.getElem?_cons_succ, List.getElem?_cons_zero] at c1
        have hf5 := free_block hx5
        have hlt5 := boxLt hx5
        have HX5 := hid hx5
        have HST5 := hid hst5
        clear hx5 hst5
        cases b5
        · by_cases hf1 : 1 < f
          · have hfI : (1 : Int) < (f : Int) := by omega
            have e : st6 = (bl s5, true) := by rw [← HST6.out, ← HST5.out]; simp [hf1]
            have HE := hid e
            clear hf1 e
            go_wp2_with fail
            go_meet
            rw [HE.out]
            exact Rdr.bad HX5.out hz5 true
          · have hfI : decide ((1 : Int) < (f : Int)) = false := decide_eq_false (by omega)
            have e : st6 = (bl s5, false) := by rw [← HST6.out, ← HST5.out]; simp [hf1]
            have HE := hid e
            clear hf1 e
            go_wp2_with fail
            go_meet
            rw [HE.out]
            exact Rdr.bad HX5.out hz5 false
        · have e : st6 = (bl s5, true) := by rw [← HST6.out, ← HST5.out]; simp
          have HE := hid e
          clear e
          go_wp2_with fail
          go_meet
          rw [HE.out]
          exact Rdr.bad HX5.out hz5 true
      case rest =>
      obtain ⟨hr6, hg6⟩ := hcut
      obtain ⟨w6, rfl⟩ : ∃ w6 : World, w6 = wc := ⟨_, rfl⟩
      have HM6 := hid (HM5.out.read HR5.out hbrI hg6)
      have HR6 := hid hr6
      have c6 := lnCell1 HM6.out.box
      have hmf := free_block HM6.out.box
      have hbnlt := boxLt HM6.out.box
      clear hr6 hg6 HM5 HR5
      obtain ⟨nx, hnx⟩ : ∃ x, (rd st6).1 = x := ⟨_, rfl⟩
      have HNX := hid hnx
      have hrl : rs.length ≤ 20000 := by have := HRS.out; omega
      clear hnx
      go_upto_region 7 with fail
      go_region_law (first
        | ((refine append_held (by rfl) _ _ 22 (by rfl) w.heap.size 88 i0 _ 2 16 Tryd.underlying22 hi hz0 hz1 hz2 (by rfl) (by decide) (.slice y.ar rs.length y.cr) rs.length (regVals rs) (by rfl) ?_ (some ⟨w7.heap.size, 0, none⟩) 1 1 [.bool ((f : Int) == 1), .int .i64 (nx : Int)] (by rfl) (by intro h; cases h) (by rfl) ?_ (by simp [Value.oneCell']) ?_ ?_ ?_ ?_); (focus ((repeat (first | with_reducible exact HM7.out.rr | with_reducible refine World.ownsRow.drew ?_ | with_reducible refine World.ownsRow.alloc ?_ _)); done)); (focus (rintro ad' h j' u hj'; cases h; rw [Addr.add_at]; exact (cell_new _ _ _ _).trans (by simpa using hj'))); (focus (unfold maxLen; omega)); (focus omega); (focus (first | (simp; done) | (simp; omega) | (have := HM7.out.size; simp; omega) | fail)); intro av cv wb HPO HRN hgb; (have P := stepReg (r := ⟨(f : Int) == 1, (nx : Int)⟩) HM7.out HR7.out (by first | with_reducible exact alloc_below _ _ | with_reducible exact alloc_below_drew _ _ | fail) hgb.out HRN.out); (have cb := lnCell1 P.1); have hbf := free_block P.1; have hblt := boxLt P.1; have HP := hid P.2; (have hz8 : w.heap.size ≤ wb.heap.size := by (have h1 := boxLt P.1; have h2 := HM7.out.hbn; omega)); clear P)
        | (go_simp; (with_reducible refine (number_at br st6 s.size hlen w6 _ (by first | with_reducible exact Below.refl _ _ | with_reducible exact (Below.refl _ _).drew | fail) HR6.out).mono ?_); rintro e w7 ⟨rfl, hr, hg⟩; rw [HNX.out]; have HR7 := hid hr; have HM7 := hid (HM6.out.read HR6.out hbrI hg); (have c7 := lnCell1 HM7.out.box); have hf7 := free_block HM7.out.box; have hl7 := boxLt HM7.out.box; have hz7 := HM7.out.size; clear hr hg)
        | fail)
      all_goals
        go_wp2_with fail
        go_roundw
        case rel =>
          have e1 : (rdReg st).1 = ⟨(f : Int) == 1, (nx : Int)⟩ := by
            rw [rdReg_two, HF.out, HST6.out, HNX.out]
            simp only [LR.mk.injEq, and_true]
            rw [Bool.eq_iff_iff]; simp; omega
          have e2 : (rdReg st).2 = (rd st6).2 := by rw [rdReg_two, HF.out, HST6.out]
          have h := rdRegs_next hlt HRD.out
          rw [e1, e2] at h
          exact ⟨i + 1, rs ++ [⟨(f : Int) == 1, (nx : Int)⟩], (rd st6).2, { y with ar := av, cr := cv }, by omega, by go_num, by have := HRS.out; simp; omega, h, HY.out, HP.out.1, HP.out.2⟩
        case measure => simp [intOf]; omega
      --stub]
    · obtain rfl : i = K := by omega
      have e3 : run3 (bl s) = (rs, st) := by
        unfold run3
        rw [HK.out, HST2.out]
        have h := HRD.out
        rw [Nat.sub_self] at h
        simpa [rdRegs] using h
      obtain ⟨K4, hK4⟩ : ∃ x, (rdMany st).1 = x := ⟨_, rfl⟩
      obtain ⟨st4, hst4⟩ : ∃ x, (rdMany st).2 = x := ⟨_, rfl⟩
      have hK42 : K4 ≤ 20000 := by rw [← hK4]; exact rdMany_le st
      have H3 := hid e3
      have HK4 := hid hK4
      have HST4 := hid hst4
      have hrs20 : rs.length ≤ 20000 := by have := HRS.out; omega
      clear e3 hK4 hst4 HRD HST2 HK hlt hle
      go_wp2_with (go_at_call 46; (with_reducible refine (many_at br st s.size hlen _ _ (Below.refl _ _) HR.out).mono ?_); rintro e w4 ⟨rfl, hr4, hg4⟩; rw [HST4.out] at hr4; rw [HK4.out]; have HM4 := hid (HM.out.read HR.out hbrI hg4); have HR4 := hid hr4; clear hr4 hg4 HM HR)
      go_loopw [49] (fun s49 wr => LutsRel w br bn s.size K4 g rs st4 s49 wr) (fun s49 _ => K4 - (intOf s49).toNat)
      case atStart => exact ⟨0, [], st4, y, Nat.zero_le _, rfl, rfl, by simp, HY.out, HM4.out, HR4.out⟩
      case round =>
        obtain ⟨i, ls, stl, y, hle, rfl, hls, hrd, hy, hm, hr⟩ := hrel
        have HM := hid hm
        have HR := hid hr
        have HRD := hid hrd
        have HY := hid hy
        have HLS := hid hls
        clear hm hr hrd hy hls HM4 HR4
        by_cases hlt : i < K4
        · have hltI : (i : Int) < (K4 : Int) := by omega
          --[stub
          go_upto_region 12 with fail
          obtain ⟨bt, hbt⟩ : ∃ b, wr.heap.size = b := ⟨_, rfl⟩
          have hI := Ins.start wr br
          rw [hbt] at hI ⊢
          have hrA := HR.out.stay (alloc_below wr (.cells #[.slice none 0 0, .int .i64 0] 90))
          generalize wr.alloc (.cells #[.slice none 0 0, .int .i64 0] 90) = wa at *
          obtain ⟨f, hf⟩ : ∃ f, (rd stl).1 = f := ⟨_, rfl⟩
          obtain ⟨st12, hst12⟩ : ∃ x, (rd stl).2 = x := ⟨_, rfl⟩
          obtain ⟨m, hmm⟩ : ∃ m, min f 5 = m := ⟨_, rfl⟩
          have hm5 : m ≤ 5 := by omega
          have hmin : min (f : Int) 5 = (m : Int) := by omega
          have HI := hid hI
          have HRA := hid hrA
          have HF := hid hf
          have HST12 := hid hst12
          have HMM := hid hmm
          clear hbt hI hrA hf hst12 hmm
          go_wp2_with (go_at_call 45; (with_reducible refine (number_at br stl s.size hlen _ _ (Below.refl _ _) HRA.out).mono ?_); rintro e w12 ⟨rfl, hr12, hg12⟩; rw [HST12.out] at hr12; rw [HF.out]; have HI12 := hid (HI.out.read HRA.out hg12); have HR12 := hid hr12; clear hr12 hg12 HI HRA)
          clear hmin
          obtain ⟨wr0, rfl⟩ : ∃ wr0 : World, wr0 = wr := ⟨_, rfl⟩
          go_loopw [54] (fun s54 wx => InsRel wr0 br bt s.size m st12 s54 wx) (fun s54 _ => m - (intOf s54).toNat)
          case atStart => exact ⟨0, [], st12, none, 0, Nat.zero_le _, rfl, rfl, by simp, HI12.out, HR12.out⟩
          case round =>
            obtain ⟨j, ns, stj, ai, ci, hlej, rfl, hns, hrdj, hI, hr⟩ := hrel
            have HI := hid hI
            have HRJ := hid hr
            have HRDJ := hid hrdj
            have HNS := hid hns
            have hnl : ns.length ≤ 5 := by omega
            clear hI hr hrdj hns HI12 HR12
            by_cases hltj : j < m
            · have hltjI : (j : Int) < (m : Int) := by omega
              obtain ⟨nx, hnx⟩ : ∃ x, (rd stj).1 = x := ⟨_, rfl⟩
              obtain ⟨stk, hstk⟩ : ∃ x, (rd stj).2 = x := ⟨_, rfl⟩
              have HNX := hid hnx
              have HSTK := hid hstk
              have d0 := cell_block HI.out.box 0; simp only [List.getElem?_toArray, List.getElem?_cons_zero] at d0
              have hmf := free_block HI.out.box
              have hblt := boxLt HI.out.box
              clear hnx hstk
              obtain ⟨wj, rfl⟩ : ∃ wj : World, wj = wr := ⟨_, rfl⟩
              go_upto_region 14 with fail
              go_region_law (first
                | ((refine append_held (by rfl) _ _ 24 (by rfl) wr0.heap.size 3 i2 _ 1 8 Tryd.underlying24 hi2 hx0 hx1 hx2 (by rfl) (by decide) (.slice ai ns.length ci) ns.length (ns.map (.int .i64)) (by rfl) ?_ (some ⟨w7.heap.size, 0, none⟩) 1 1 [.int .i64 (nx : Int)] (by rfl) (by intro h; cases h) (by rfl) ?_ (by simp [Value.oneCell']) ?_ ?_ ?_ ?_); (focus ((repeat (first | with_reducible exact HI7.out.row | with_reducible refine World.ownsRow.drew ?_ | with_reducible refine World.ownsRow.alloc ?_ _)); done)); (focus (rintro ad' h j' u hj'; cases h; rw [Addr.add_at]; exact (cell_new _ _ _ _).trans (by simpa using hj'))); (focus (unfold maxLen; omega)); (focus omega); (focus (first | (simp; done) | (simp; omega) | (have := HI7.out.gr.size; simp; omega) | fail)); intro av cv wb HPO HRN hgb; (have P := stepIns (x := (nx : Int)) HI7.out HR7.out (by first | with_reducible exact alloc_below _ _ | with_reducible exact alloc_below_drew _ _ | fail) hgb.out HRN.out); (have cb := cell_block P.1 0; simp only [List.getElem?_toArray, List.getElem?_cons_zero] at cb); have hbf := free_block P.1; have hblt2 := boxLt P.1; have HP := hid P.2; (have hz8 : wr0.heap.size ≤ wb.heap.size := by (have h1 := boxLt P.1; have h2 := HI7.out.new; omega)); clear P)
                | (go_simp; (with_reducible refine (number_at br stj s.size hlen wj _ (by first | with_reducible exact Below.refl _ _ | with_reducible exact (Below.refl _ _).drew | fail) HRJ.out).mono ?_); rintro e w7 ⟨rfl, hr, hg⟩; rw [HSTK.out] at hr; rw [HNX.out]; have HR7 := hid hr; have HI7 := hid (HI.out.read HRJ.out hg); (have c7 := cell_block HI7.out.box 0; simp only [List.getElem?_toArray, List.getElem?_cons_zero] at c7); have hf7 := free_block HI7.out.box; have hl7 := boxLt HI7.out.box; have hz7 := HI7.out.gr.size; clear hr hg)
                | fail)
              all_goals
                go_wp2_with fail
                go_roundw
                case rel =>
                  have h := rdInts_next hltj HRDJ.out
                  rw [HNX.out, HSTK.out] at h
                  exact ⟨j + 1, ns ++ [(nx : Int)], stk, av, cv, by omega, by go_num, by have := HNS.out; simp; omega, h, HP.out.1, HP.out.2⟩
                case measure => simp [intOf]; omega
            · obtain rfl : j = m := by omega
              have e5 : rdInts j st12 = (ns, stj) := by
                have h := HRDJ.out
                rw [Nat.sub_self] at h
                simpa [rdInts] using h
              obtain ⟨tb, htb⟩ : ∃ x, (rd stj).1 = x := ⟨_, rfl⟩
              obtain ⟨stk, hstk⟩ : ∃ x, (rd stj).2 = x := ⟨_, rfl⟩
              have H5 := hid e5
              have HTB := hid htb
              have HSTK := hid hstk
              clear e5 htb hstk HRDJ
              obtain ⟨wj, rfl⟩ : ∃ wj : World, wj = wr := ⟨_, rfl⟩
              go_upto_region 17 with (go_at_call 45; (with_reducible refine (number_at br stj s.size hlen _ _ (Below.refl _ _) HRJ.out).mono ?_); rintro e w16 ⟨rfl, hr16, hg16⟩; rw [HSTK.out] at hr16; rw [HTB.out]; have HI16 := hid (HI.out.read HRJ.out hg16); have HR16 := hid hr16; (have d16 := cell_block HI16.out.box 1; simp only [List.getElem?_toArray, List.getElem?_cons_succ, List.getElem?_cons_zero] at d16); have hf16 := free_block HI16.out.box; have hlt16 := boxLt HI16.out.box; clear hr16 hg16 HI HRJ)
              obtain ⟨q1, q2, q3, q4⟩ := HI16.out.done HM.out HR.out HR16.out hbrI (tb : Int)
              clear d16 hf16 hlt16
              generalize w16.setCell ⟨bt, 1, none⟩ (.int .i64 (tb : Int)) = w17 at *
              have Q1 := hid q1
              have Q2 := hid q2
              have Q3 := hid q3
              have Q4 := hid q4
              have e0 := cell_block Q1.out 0; simp only [List.getElem?_toArray, List.getElem?_cons_zero] at e0
              have e1 := cell_block Q1.out 1; simp only [List.getElem?_toArray, List.getElem?_cons_succ, List.getElem?_cons_zero] at e1
              have e2 := lnCell2 Q3.out.box
              have hfn := free_block Q3.out.box
              have hnlt := boxLt Q3.out.box
              have hls20 : ls.length ≤ 20000 := by have := HLS.out; omega
              clear q1 q2 q3 q4
              go_upto_region 17 with fail
              go_region_law (first
                | ((refine append_held (by rfl) _ _ 23 (by rfl) w.heap.size 90 i1 _ 2 32 Tryd.underlying23 hi1 hy0 hy1 hy2 (by rfl) (by decide) (.slice y.al ls.length y.cl) ls.length (lutVals ls y.A y.C) (by rfl) ?_ (some ⟨w17.heap.size, 0, none⟩) 1 1 [.slice ai ns.length ci, .int .i64 (tb : Int)] (by rfl) (by intro h; cases h) (by rfl) ?_ (by simp [Value.oneCell']) ?_ ?_ ?_ ?_); (focus ((repeat (first | with_reducible exact Q3.out.rl | with_reducible refine World.ownsRow.drew ?_ | with_reducible refine World.ownsRow.alloc ?_ _)); done)); (focus (rintro ad' h j' u hj'; cases h; rw [Addr.add_at]; exact (cell_new _ _ _ _).trans (by simpa using hj'))); (focus (unfold maxLen; omega)); (focus omega); (focus (first | (simp; done) | (simp; omega) | (have := Q3.out.size; simp; omega) | fail)); intro av cv wb HPO HRN hgb; (have P := stepLut (tb := (tb : Int)) Q3.out Q4.out hnl Q2.out (by first | with_reducible exact alloc_below _ _ | with_reducible exact alloc_below_drew _ _ | fail) hgb.out HRN.out); (have cb := lnCell2 P.1); have hbf := free_block P.1; have hblt2 := boxLt P.1; have HP := hid P.2; clear P)
                | fail)
              all_goals
                go_wp2_with fail
                go_roundw
                case rel =>
                  have e7 : rdLut stl = (⟨ns, (tb : Int)⟩, stk) := by
                    unfold rdLut
                    rw [HF.out, HST12.out, HMM.out, H5.out]
                    simp only [HTB.out, HSTK.out]
                  have h := rdLuts_next hlt HRD.out
                  rw [e7] at h
                  exact ⟨i + 1, ls ++ [⟨ns, (tb : Int)⟩], stk, { y with al := av, cl := cv, A := at1 y.A ls.length ai, C := at1 y.C ls.length ci }, by omega, by go_num, by have := HLS.out; simp; omega, h, HY.out, HP.out.1, HP.out.2⟩
                case measure => simp [intOf]; omega
          --stub]
        · obtain rfl : i = K4 := by omega
          have e5 : run5 (bl s) = (ls, stl) := by
            have e4 : run4 (bl s) = (i, st4) := by
              unfold run4
              rw [H3.out]
              exact Prod.ext HK4.out HST4.out
            unfold run5
            rw [e4]
            have h := HRD.out
            rw [Nat.sub_self] at h
            simpa [rdLuts] using h
          obtain ⟨K6, hK6⟩ : ∃ x, (rdMany stl).1 = x := ⟨_, rfl⟩
          obtain ⟨st6, hst6⟩ : ∃ x, (rdMany stl).2 = x := ⟨_, rfl⟩
          have hK62 : K6 ≤ 20000 := by rw [← hK6]; exact rdMany_le stl
          have H5 := hid e5
          have HK6 := hid hK6
          have HST6 := hid hst6
          have hls20 : ls.length ≤ 20000 := by have := HLS.out; omega
          clear e5 hK6 hst6 HRD HST4 HK4 hlt hle
          go_wp2_with (go_at_call 46; (with_reducible refine (many_at br stl s.size hlen _ _ (Below.refl _ _) HR.out).mono ?_); rintro e w6 ⟨rfl, hr6, hg6⟩; rw [HST6.out] at hr6; rw [HK6.out]; have HM6 := hid (HM.out.read HR.out hbrI hg6); have HR6 := hid hr6; clear hr6 hg6 HM HR)
          obtain ⟨ao0, hao0⟩ : ∃ x, y.ao = x := ⟨_, rfl⟩
          have HO6 : Hid (Out w w6 br bn { y with ao := none, co := 0 } ⟨g, rs, ls, []⟩ w6) := by
            have h := Out.start (br := br) HM6.out rfl HY.out.1 HY.out.2
            have e : y = { y with ao := none, co := 0 } := by
              obtain ⟨h1, h2⟩ := HY.out
              cases y
              simp only at h1 h2
              subst h1 h2
              rfl
            rw [e] at h
            exact h
          have hz6 := HM6.out.size
          go_loopw [80] (fun s80 wx => OutsRel w w6 br bn s.size K6 y g rs ls st6 s80 wx) (fun s80 _ => K6 - (intOf s80).toNat)
          case atStart => exact ⟨0, [], st6, none, 0, Nat.zero_le _, rfl, rfl, by simp, HO6.out, HR6.out⟩
          case round =>
            obtain ⟨j, os, stj, ao, co, hlej, rfl, hos, hrdj, hO, hr⟩ := hrel
            have HO := hid hO
            have HRJ := hid hr
            have HRDJ := hid hrdj
            have HOS := hid hos
            have hol : os.length ≤ 20000 := by omega
            clear hO hr hrdj hos HO6
            by_cases hltj : j < K6
            · have hltjI : (j : Int) < (K6 : Int) := by omega
              obtain ⟨nx, hnx⟩ : ∃ x, (rd stj).1 = x := ⟨_, rfl⟩
              obtain ⟨stk, hstk⟩ : ∃ x, (rd stj).2 = x := ⟨_, rfl⟩
              have HNX := hid hnx
              have HSTK := hid hstk
              have f3 := lnCell3 HO.out.box
              have hmf := free_block HO.out.box
              have hblt := boxLt HO.out.box
              have hzo := HO.out.but.size
              clear hnx hstk
              --[stub
              obtain ⟨wj, rfl⟩ : ∃ wj : World, wj = wr := ⟨_, rfl⟩
              go_upto_region 21 with fail
              go_region_law (first
                | ((refine append_held (by rfl) _ _ 24 (by rfl) w6.heap.size 3 i2 _ 1 8 Tryd.underlying24 hi2 hx0 hx1 hx2 (by rfl) (by decide) (.slice ao os.length co) os.length (os.map (.int .i64)) (by rfl) ?_ (some ⟨w7.heap.size, 0, none⟩) 1 1 [.int .i64 (nx : Int)] (by rfl) (by intro h; cases h) (by rfl) ?_ (by simp [Value.oneCell']) ?_ ?_ ?_ ?_); (focus ((repeat (first | with_reducible exact HO7.out.ro | with_reducible refine World.ownsRow.drew ?_ | with_reducible refine World.ownsRow.alloc ?_ _)); done)); (focus (rintro ad' h j' u hj'; cases h; rw [Addr.add_at]; exact (cell_new _ _ _ _).trans (by simpa using hj'))); (focus (unfold maxLen; omega)); (focus omega); (focus (first | (simp; done) | (simp; omega) | (have := HO7.out.but.size; simp; omega) | fail)); intro av cv wb HPO HRN hgb; (have P := stepOut (x := (nx : Int)) HO7.out HR7.out (by first | with_reducible exact alloc_below _ _ | with_reducible exact alloc_below_drew _ _ | fail) hgb.out HRN.out); (have cb := lnCell3 P.1); have hbf := free_block P.1; have hblt2 := boxLt P.1; have HP := hid P.2; (have hz8 : w6.heap.size ≤ wb.heap.size := Nat.le_trans HO7.out.but.size (Nat.le_trans (by first | exact (alloc_below _ _).size | exact (alloc_below_drew _ _).size) hgb.out.size)); clear P)
                | (go_simp; (with_reducible refine (number_at br stj s.size hlen wj _ (by first | with_reducible exact Below.refl _ _ | with_reducible exact (Below.refl _ _).drew | fail) HRJ.out).mono ?_); rintro e w7 ⟨rfl, hr, hg⟩; rw [HSTK.out] at hr; rw [HNX.out]; have HR7 := hid hr; have HO7 := hid (HO.out.read HRJ.out hg); (have c7 := lnCell3 HO7.out.box); have hf7 := free_block HO7.out.box; have hl7 := boxLt HO7.out.box; have hz7 := HO7.out.but.size; clear hr hg)
                | fail)
              all_goals
                go_wp2_with fail
                go_roundw
                case rel =>
                  have h := rdInts_next hltj HRDJ.out
                  rw [HNX.out, HSTK.out] at h
                  exact ⟨j + 1, os ++ [(nx : Int)], stk, av, cv, by omega, by go_num, by have := HOS.out; simp; omega, h, HP.out.1, HP.out.2⟩
                case measure => simp [intOf]; omega
              --stub]
            · obtain rfl : j = K6 := by omega
              have e7 : run7 (bl s) = (os, stj) := by
                have e6 : run6 (bl s) = (j, st6) := by
                  unfold run6
                  rw [H5.out]
                  exact Prod.ext HK6.out HST6.out
                unfold run7
                rw [e6]
                have h := HRDJ.out
                rw [Nat.sub_self] at h
                simpa [rdInts] using h
              have HRUN : Hid (run (bl s) = (⟨g, rs, ls, os⟩, stj)) := by
                unfold Hid run
                rw [e7, H3.out, H5.out, HG.out]
              obtain ⟨s7, b7, hx7, hst7, hz7⟩ := HRJ.out
              have HX7 := hid hx7
              have hBF := HO.out.below HM6.out hbrI
              have HBF := hid hBF
              have hNETS : ∀ wx : World, (∀ k, w.heap.size ≤ k → k < wr.heap.size → wx.heap[k]? = wr.heap[k]?) → LnIn wx.heap.size wx bn { y with ao := ao, co := co } ⟨g, rs, ls, os⟩ := by
                obtain ⟨sx, bx, hx3, _, _⟩ := HR6.out
                exact HO.out.netS HM6.out hx3 rfl rfl rfl rfl rfl rfl rfl rfl (by unfold maxLen; simp only; omega) (by unfold maxLen; simp only; omega) (by unfold maxLen; simp only; omega)
              have HNETS := hid hNETS
              have HBN := hid HM6.out.hbn
              have hNET := hNETS wr fun _ _ _ => rfl
              clear hNETS
              have HNET := hid hNET
              have g0 := cell_block hx7 0
              have g1 := cell_block hx7 1
              simp only [List.getElem?_toArray, List.getElem?_cons_succ, List.getElem?_cons_zero] at g0 g1
              have hzr := boxLt hx7
              have HST7 := hid hst7
              clear e7 hx7 hBF hNET hst7 HRDJ HRJ HO
              have hpar : parses (bl s) = (!b7 && decide (bl s7 = []) && (⟨g, rs, ls, os⟩ : LN).right) := by
                unfold parses
                rw [HRUN.out, ← HST7.out]
              have HPAR := hid hpar
              clear hpar
              cases b7
              · by_cases hs7 : s7 = ⟨#[]⟩
                · subst hs7
                  obtain ⟨wf, rfl⟩ : ∃ wf : World, wf = wr := ⟨_, rfl⟩
                  cases hR : (⟨g, rs, ls, os⟩ : LN).right
                  · have hp : parses (bl s) = false := by rw [HPAR.out, hR]; simp
                    have HRT := hid hR
                    have HP := hid hp
                    clear hR hp
                    go_wp2_with (go_at_call 34; (with_reducible refine (LnRight_any _ _ _ _ _ HNET.out (Nat.le_refl _)).mono ?_); rintro e w9 ⟨rfl, hb9⟩; rw [HRT.out]; have HB9 := hid (HBF.out.trans (hb9.mono HBF.out.size)); clear hb9)
                    go_ret2
                    exact ParsePostS.no HP.out ⟨rfl, HB9.out⟩
                  · have hp : parses (bl s) = true := by rw [HPAR.out, hR]; rfl
                    have HRT := hid hR
                    have HP := hid hp
                    clear hR hp
                    go_wp2_with (go_at_call 34; (with_reducible refine (LnRight_any _ _ _ _ _ HNET.out (Nat.le_refl _)).mono ?_); rintro e w9 ⟨rfl, hb9⟩; rw [HRT.out]; have HB9 := hid (HBF.out.trans (hb9.mono HBF.out.size)); have HN9 := hid hb9; clear hb9)
                    go_ret2
                    refine ParsePostS.yes HP.out ⟨bn, { y with ao := ao, co := co }, rfl, HBN.out, Nat.lt_of_lt_of_le HNET.out.hb HN9.out.size, ?_, HB9.out⟩
                    rw [HRUN.out]
                    exact fun wx hwx => HNETS.out wx fun k h1 h2 => (hwx k h1 (Nat.lt_of_lt_of_le h2 HN9.out.size)).trans (HN9.out.block k h2)
                · have hne : ¬ bl s7 = [] := by
                    intro h
                    apply hs7
                    have hl := bl_len s7
                    rw [h] at hl
                    obtain ⟨⟨l⟩⟩ := s7
                    have : l = [] := List.eq_nil_of_length_eq_zero (by simpa [ByteArray.size] using hl.symm)
                    subst this
                    rfl
                  have hp : parses (bl s) = false := by rw [HPAR.out]; simp [hne]
                  have HP := hid hp
                  have hbe : (s7.toList == []) = false := bytesNe s7 [] hs7
                  clear hp hne hs7
                  go_wp2_with fail
                  go_ret2
                  exact ParsePostS.no HP.out ⟨rfl, HBF.out⟩
              · have hp : parses (bl s) = false := by rw [HPAR.out]; simp
                have HP := hid hp
                clear hp
                go_wp2_with fail
                go_ret2
                exact ParsePostS.no HP.out ⟨rfl, HBF.out⟩
theorem Parse_any (s : ByteArray) (hlen : s.size ≤ 1000000) (w : World) : Calls Tryd.prog 12 #[.string s] w (ParsePost s w) := by
  refine (Parse_seg s hlen w).mono ?_
  intro e w' h
  unfold ParsePostS at h
  unfold ParsePost
  split
  · rename_i hp
    rw [if_pos hp] at h
    obtain ⟨bn, y, h1, _, _, h2, h3⟩ := h
    exact ⟨bn, y, h1, h2 w' fun _ _ _ => rfl, h3⟩
  · rename_i hp
    rw [if_neg hp] at h
    exact h
end Go.Proofs.YtlaeflpddehipabDoor

/- The document's ParseImage, walked (written by gen_rparse.py). -/
import Derived.Test.YtlaeflpddehipabDoorRPMem
import Derived.Test.YtlaeflpddehipabDoorSrcAll
import Derived.Deep.DeepCutAuto
import Derived.Deep.RegionLaw
import Derived.Deep.CutBlock
set_option linter.unusedVariables false
set_option linter.unusedSimpArgs false
namespace Go.Proofs.YtlaeflpddehipabDoor.Q
open Go.RowKit
attribute [local go_sem ↓] Go.wp_at_zero Go.wp_at_succ

theorem alloc_below (w : World) (o : Obj) : Below w.heap.size w (w.alloc o) := (Below.refl _ _).alloc (Nat.le_refl _) o
theorem alloc_below_drew (w : World) (o : Obj) : Below w.heap.size w (w.alloc o).drew := (alloc_below w o).drew
theorem bytesNe (s : ByteArray) (l : List UInt8) (h : ¬ s = ⟨l.toArray⟩) : (s.toList == l) = false := by
  rw [beq_eq_false_iff_ne]
  intro e
  apply h
  rw [ByteArray.toList_eq] at e
  subst e
  cases s
  simp
theorem bytesNe2 (s t : ByteArray) (h : ¬ s = t) : (s.toList == t.toList) = false := by
  rw [beq_eq_false_iff_ne]
  intro e
  apply h
  rw [ByteArray.toList_eq, ByteArray.toList_eq] at e
  exact ByteArray.ext (Array.ext' e)
theorem four_far {w : World} {b k : Nat} {v0 v1 v2 v3 : Value} (h : k ≠ b) : ((((w.setCell ⟨b, 0, none⟩ v0).setCell ⟨b, 1, none⟩ v1).setCell ⟨b, 2, none⟩ v2).setCell ⟨b, 3, none⟩ v3).heap[k]? = w.heap[k]? := by
  rw [heap_setCell_other _ _ _ _ h, heap_setCell_other _ _ _ _ h, heap_setCell_other _ _ _ _ h, heap_setCell_other _ _ _ _ h]
def RPYes (s : ByteArray) (w : World) (e : Ending) (w' : World) : Prop :=
  rparses (bl s) ∧ ∃ y, e = .returned (.tuple #[.agg (lnV y (rrun (bl s)).1), .int .i64 0]) ∧ (∀ wx : World, (∀ k, w.heap.size ≤ k → k < w'.heap.size → wx.heap[k]? = w'.heap[k]?) → LnRows wx.heap.size wx y (rrun (bl s)).1) ∧ Below w.heap.size w w'
def RPNo (s : ByteArray) (w : World) (e : Ending) (w' : World) : Prop :=
  ¬ rparses (bl s) ∧ e = .returned (.tuple #[.agg #[.int .i64 0, .slice none 0 0, .slice none 0 0, .slice none 0 0], .int .i64 3]) ∧ Below w.heap.size w w'
theorem numA_at (br : Nat) (st : Rd) (n : Nat) (hn : n ≤ 1000000) (w W : World) (hW : Below w.heap.size w W) (h : Rdr w br st n) :
    Calls Tryd.prog 44 #[.pointer (some ⟨br, 0, none⟩), .int .i64 1048576] W fun e w' => e = .returned (.int .i64 ((tkA st).1 : Nat)) ∧ Rdr w' br (tkA st).2 n ∧ w.grownBy w' (some br) := num_at 1048576 br st n hn w W hW h
theorem num1_at (br : Nat) (st : Rd) (n : Nat) (hn : n ≤ 1000000) (w W : World) (hW : Below w.heap.size w W) (h : Rdr w br st n) :
    Calls Tryd.prog 44 #[.pointer (some ⟨br, 0, none⟩), .int .i64 1] W fun e w' => e = .returned (.int .i64 ((tk 1 st).1 : Nat)) ∧ Rdr w' br (tk 1 st).2 n ∧ w.grownBy w' (some br) := num_at 1 br st n hn w W hW h
theorem num4_at (br : Nat) (st : Rd) (n : Nat) (hn : n ≤ 1000000) (w W : World) (hW : Below w.heap.size w W) (h : Rdr w br st n) :
    Calls Tryd.prog 44 #[.pointer (some ⟨br, 0, none⟩), .int .i64 4] W fun e w' => e = .returned (.int .i64 ((tk 4 st).1 : Nat)) ∧ Rdr w' br (tk 4 st).2 n ∧ w.grownBy w' (some br) := num_at 4 br st n hn w W hW h
theorem Rdr.bad_cell {w : World} {br n : Nat} {st : Rd} (h : Rdr w br st n) : w.cell? ⟨br, 1, none⟩ = some (.bool st.2) := by
  obtain ⟨s, b, h1, rfl, _⟩ := h
  exact (cell_block h1 1).trans rfl
theorem Rdr.lt {w : World} {br n : Nat} {st : Rd} (h : Rdr w br st n) : br < w.heap.size := by
  obtain ⟨s, b, h1, rfl, _⟩ := h
  exact boxLt h1
set_option maxRecDepth 100000 in
set_option maxHeartbeats 25600000 in
theorem RParse_any (s : ByteArray) (hlen : s.size ≤ 1000000) (w : World) : Calls Tryd.prog 11 #[.string s] w fun e w' => RPYes s w e w' ∨ RPNo s w e w' := by
  obtain ⟨i0, hi, hz0, hz1, hz2⟩ := info_parts Tryd.infoRReg
  obtain ⟨i1, hi1, hy0, hy1, hy2⟩ := info_parts Tryd.infoRLut
  obtain ⟨i2, hi2, hx0, hx1, hx2⟩ := info_parts Tryd.infoOutInt
  have HZ0 := hid (show (w.alloc (.cells #[.int .i64 0, .slice none 0 0, .slice none 0 0, .slice none 0 0] 30)).heap[w.heap.size]? = some (.cells #[.int .i64 0, .slice none 0 0, .slice none 0 0, .slice none 0 0] 30 (0, 0)) from alloc_at _ _)
  have HBZ := hid (show Below w.heap.size w (w.alloc (.cells #[.int .i64 0, .slice none 0 0, .slice none 0 0, .slice none 0 0] 30)) from (Below.refl _ _).alloc (Nat.le_refl _) _)
  have hszz : (w.alloc (.cells #[.int .i64 0, .slice none 0 0, .slice none 0 0, .slice none 0 0] 30)).heap.size = w.heap.size + 1 := by simp
  go_enter Tryd.func11, Tryd.ntmps11
  go_upto_region 1 with fail
  generalize w.alloc (.cells #[.int .i64 0, .slice none 0 0, .slice none 0 0, .slice none 0 0] 30) = wz at *
  obtain ⟨br, hbr⟩ : ∃ b, w.heap.size + 1 = b := ⟨_, rfl⟩
  have eB : wz.heap.size = br := by omega
  have R0 : Rdr (wz.alloc (.cells #[.string s, .bool false] 101)) br (bl s, false) s.size := ⟨s, false, by rw [← eB]; exact box_new _ _, rfl, Nat.le_refl _⟩
  have HR0 := hid R0
  have B0 := hid (alloc_below wz (.cells #[.string s, .bool false] 101))
  have E1 : Hid (tkA (bl s, false) = rr1 (bl s)) := rfl
  have hbrI : wz.heap.size ≤ br := by omega
  have hwz : w.heap.size < wz.heap.size := by omega
  clear R0
  go_upto_region 2 with fail
  (try rw [eB])
  (try rw [hbr])
  generalize wz.alloc (.cells #[.string s, .bool false] 101) = wt at *
  clear hszz
  have HEB := hid eB
  have HBR := hid hbr
  clear eB hbr
  go_upto_region 3 with (go_at_call 44; (with_reducible refine (numA_at br (bl s, false) s.size hlen _ _ (Below.refl _ _) HR0.out).mono ?_); rintro e w1 ⟨rfl, hr1, hg1⟩; rw [E1.out] at hr1 ⊢; have HR1 := hid hr1; have B1 := hid (B0.out.trans (belowGrown hg1 B0.out.size hbrI)); clear hr1 hg1)
  obtain ⟨g, hg⟩ : ∃ g, (((rr1 (bl s)).1 : Nat) : Int) = g := ⟨_, rfl⟩
  rw [hg]
  obtain ⟨bn, hbn⟩ : ∃ b, w1.heap.size = b := ⟨_, rfl⟩
  have B2 := B1.out.trans ((alloc_below w1 (.cells #[.int .i64 g, .slice none 0 0, .slice none 0 0, .slice none 0 0] 30)).mono B1.out.size)
  have M0 := Mk.start (w0 := wz) (bn := bn) (g := g) (by rw [← hbn]; exact B1.out.size) (by rw [← hbn]; exact box_new w1 _) B2
  have R2 := HR1.out.stay (alloc_below w1 (.cells #[.int .i64 g, .slice none 0 0, .slice none 0 0, .slice none 0 0] 30))
  rw [hbn]
  generalize w1.alloc (.cells #[.int .i64 g, .slice none 0 0, .slice none 0 0, .slice none 0 0] 30) = w2 at *
  have HG := hid hg
  have HM0 := hid M0
  have HR2 := hid R2
  have E2 : Hid (tkA (rr1 (bl s)).2 = rr2 (bl s)) := rfl
  clear hg hbn B2 M0 R2 E1 HR0 HR1 B0 B1
  go_upto_block 0 with (go_at_call 44; (with_reducible refine (numA_at br (rr1 (bl s)).2 s.size hlen _ _ (Below.refl _ _) HR2.out).mono ?_); rintro e w3 ⟨rfl, hr3, hg3⟩; rw [E2.out] at hr3 ⊢; have HM3 := hid (HM0.out.read HR2.out hbrI hg3); have HR3 := hid hr3; clear hr3 hg3)
  have hK2 : (rr2 (bl s)).1 < 4398046511104 := tk_lt _ _
  obtain ⟨K, hK⟩ : ∃ x, (rr2 (bl s)).1 = x := ⟨_, rfl⟩
  obtain ⟨st2, hst2⟩ : ∃ x, (rr2 (bl s)).2 = x := ⟨_, rfl⟩
  have E3 : Hid (rr3 (bl s) = rRegs K st2) := by unfold Hid rr3; rw [hK, hst2]
  rw [hK] at hK2 ⊢
  rw [hst2] at HR3
  clear hK hst2 HM0 HR2 E2
  go_cut [] (fun wx => ∃ y, (y.ao = none ∧ y.co = 0) ∧ (rr3 (bl s)).1.length < 4398046511104 ∧ Mk wz bn y ⟨g, (rr3 (bl s)).1, [], []⟩ wx ∧ Rdr wx br (rr3 (bl s)).2 s.size)
  case first =>
    go_wp2_with fail
    go_loopw [6] (fun v6 wr => ∃ (k : Nat) (rs : List LR) (st : Rd) (y : Lay), v6 = .int .i64 k ∧ rs.length + k = K ∧ rRegs K st2 = (rs ++ (rRegs k st).1, (rRegs k st).2) ∧ (y.ao = none ∧ y.co = 0) ∧ Mk wz bn y ⟨g, rs, [], []⟩ wr ∧ Rdr wr br st s.size) (fun v6 _ => (intOf v6).toNat)
    case atStart => exact ⟨K, [], st2, _, rfl, by simp, by simp, ⟨rfl, rfl⟩, HM3.out, HR3.out⟩
    case round =>
      obtain ⟨k, rs, st, y, rfl, hrs, hrd, hy, hm, hr⟩ := hrel
      have HM := hid hm
      have HR := hid hr
      have HRD := hid hrd
      have HY := hid hy
      have c1 := hr.bad_cell
      have hbrlt := hr.lt
      clear hm hr hrd hy HM3 HR3
      by_cases h0 : 0 < k
      · have h0I : (0 : Int) < (k : Int) := by omega
        cases hb : st.2
        · rw [hb] at c1
          obtain ⟨k', rfl⟩ : ∃ z, k = z + 1 := ⟨k - 1, by omega⟩
          have HNEXT := hid (rRegs_next hb HRD.out)
          obtain ⟨f, hf⟩ : ∃ f, (tk 1 st).1 = f := ⟨_, rfl⟩
          obtain ⟨st6, hst6⟩ : ∃ x, (tk 1 st).2 = x := ⟨_, rfl⟩
          have HF := hid hf
          have HST6 := hid hst6
          obtain ⟨nx, hnx⟩ : ∃ x, (tkA st6).1 = x := ⟨_, rfl⟩
          have HNX := hid hnx
          clear hf hst6 hnx
          have hrl : rs.length < 4398046511103 := by omega
          go_upto_region 7 with (go_at_call 44; (with_reducible refine (num1_at br st s.size hlen _ _ (Below.refl _ _) HR.out).mono ?_); rintro e w6 ⟨rfl, hr5, hg5⟩; rw [HF.out]; rw [HST6.out] at hr5; have HM6 := hid (HM.out.read HR.out hbrI hg5); have HR6 := hid hr5; have c6 := lnCell1 HM6.out.box; have hmf := free_block HM6.out.box; have hbnlt := boxLt HM6.out.box; clear hr5 hg5)
          clear c1
          go_region_law (first
            | ((refine append_held (by rfl) _ _ 27 (by rfl) wz.heap.size 87 i0 _ 2 16 Tryd.underlying27 hi hz0 hz1 hz2 (by rfl) (by decide) (.slice y.ar rs.length y.cr) rs.length (regVals rs) (by rfl) ?_ (some ⟨w7.heap.size, 0, none⟩) 1 1 [.bool ((f : Int) == 1), .int .i64 (nx : Int)] (by rfl) (by intro h; cases h) (by rfl) ?_ (by simp [Value.oneCell']) ?_ ?_ ?_ ?_); (focus ((repeat (first | with_reducible exact HM7.out.rr | with_reducible refine World.ownsRow.drew ?_ | with_reducible refine World.ownsRow.alloc ?_ _)); done)); (focus (rintro ad' h j' u hj'; cases h; rw [Addr.add_at]; exact (cell_new _ _ _ _).trans (by simpa using hj'))); (focus (unfold maxLen; omega)); (focus omega); (focus (first | (simp; done) | (simp; omega) | (have := HM7.out.size; simp; omega) | fail)); intro av cv wb HPO HRN hgb; (have P := stepReg (r := ⟨(f : Int) == 1, (nx : Int)⟩) HM7.out HR7.out (by first | with_reducible exact alloc_below _ _ | with_reducible exact alloc_below_drew _ _ | fail) hgb.out HRN.out); (have cb := lnCell1 P.1); have hbf := free_block P.1; have hblt := boxLt P.1; have HP := hid P.2; (have hz8 : wz.heap.size ≤ wb.heap.size := by (have h1 := boxLt P.1; have h2 := HM7.out.hbn; omega)); clear P)
            | (go_simp; (with_reducible refine (numA_at br st6 s.size hlen w6 _ (by first | with_reducible exact Below.refl _ _ | with_reducible exact (Below.refl _ _).drew | fail) HR6.out).mono ?_); rintro e w7 ⟨rfl, hr, hg⟩; rw [HNX.out]; have HR7 := hid hr; have HM7 := hid (HM6.out.read HR6.out hbrI hg); (have c7 := lnCell1 HM7.out.box); have hf7 := free_block HM7.out.box; have hl7 := boxLt HM7.out.box; have hz7 := HM7.out.size; clear hr hg)
            | fail)
          all_goals
            go_wp2_with fail
            go_roundw
            case rel =>
              have h := HNEXT.out
              rw [HST6.out, HF.out, HNX.out] at h
              have e1 : ((f : Int) == 1) = (f == 1) := by rw [Bool.eq_iff_iff]; simp; omega
              rw [← e1] at h
              exact ⟨k', rs ++ [⟨(f : Int) == 1, (nx : Int)⟩], (tkA st6).2, { y with ar := av, cr := cv }, by first | rfl | go_num | (exact val_int (by omega)), by simp; omega, h, HY.out, HP.out.1, HP.out.2⟩
            case measure => simp [intOf]
        · rw [hb] at c1
          have e3 : rr3 (bl s) = (rs, st) := by
            rw [E3.out, HRD.out, rRegs_end k st (.inr hb)]; simp
          have H3 := hid e3
          clear e3
          go_wp2_with fail
          go_meet
          exact ⟨y, HY.out, by rw [H3.out]; simp only; omega, by rw [H3.out]; exact HM.out, by rw [H3.out]; exact HR.out⟩
      · have h0I : decide ((0 : Int) < (k : Int)) = false := decide_eq_false (by omega)
        have e3 : rr3 (bl s) = (rs, st) := by
          rw [E3.out, HRD.out, rRegs_end k st (.inl (by omega))]; simp
        have H3 := hid e3
        clear e3
        go_wp2_with fail
        go_meet
        exact ⟨y, HY.out, by rw [H3.out]; simp only; omega, by rw [H3.out]; exact HM.out, by rw [H3.out]; exact HR.out⟩
  case rest =>
  obtain ⟨y, hy, hrs20, hm, hr⟩ := hcut
  obtain ⟨rs, ers⟩ : ∃ x, (rr3 (bl s)).1 = x := ⟨_, rfl⟩
  obtain ⟨st3, est3⟩ : ∃ x, (rr3 (bl s)).2 = x := ⟨_, rfl⟩
  rw [ers] at hrs20 hm
  rw [est3] at hr
  have HRS := hid ers
  have HST3 := hid est3
  have HY := hid hy
  have HM := hid hm
  have HR := hid hr
  clear hy hm hr ers est3 HM3 HR3 E3 hK2
  obtain ⟨w4, rfl⟩ : ∃ wo : World, wo = wc := ⟨_, rfl⟩
  have E4 : Hid (rr4 (bl s) = tkA st3) := by unfold Hid rr4; rw [HST3.out]
  have hK4b : (tkA st3).1 < 4398046511104 := tk_lt _ _
  obtain ⟨K4, hK4⟩ : ∃ x, (tkA st3).1 = x := ⟨_, rfl⟩
  obtain ⟨st4, hst4⟩ : ∃ x, (tkA st3).2 = x := ⟨_, rfl⟩
  have E5 : Hid (rr5 (bl s) = rLuts K4 st4) := by unfold Hid rr5; rw [E4.out, hK4, hst4]
  rw [hK4] at hK4b
  have HK4 := hid hK4
  have HST4 := hid hst4
  clear hK4 hst4 E4
  go_upto_block 2 with (go_at_call 44; (with_reducible refine (numA_at br st3 s.size hlen _ _ (Below.refl _ _) HR.out).mono ?_); rintro e w5 ⟨rfl, hr5, hg5⟩; rw [HST4.out] at hr5; rw [HK4.out]; have HM5 := hid (HM.out.read HR.out hbrI hg5); have HR5 := hid hr5; clear hr5 hg5)
  go_cut [] (fun wx => ∃ y, (y.ao = none ∧ y.co = 0) ∧ (rr5 (bl s)).1.length < 4398046511104 ∧ Mk wz bn y ⟨g, rs, (rr5 (bl s)).1, []⟩ wx ∧ Rdr wx br (rr5 (bl s)).2 s.size)
  case first =>
    go_wp2_with fail
    go_loopw [8] (fun v8 wr => ∃ (k : Nat) (ls : List LT) (st : Rd) (y : Lay), v8 = .int .i64 k ∧ ls.length + k = K4 ∧ rLuts K4 st4 = (ls ++ (rLuts k st).1, (rLuts k st).2) ∧ (y.ao = none ∧ y.co = 0) ∧ Mk wz bn y ⟨g, rs, ls, []⟩ wr ∧ Rdr wr br st s.size) (fun v8 _ => (intOf v8).toNat)
    case atStart => exact ⟨K4, [], st4, y, rfl, by simp, by simp, HY.out, HM5.out, HR5.out⟩
    case round =>
      obtain ⟨k, ls, st, y, rfl, hls, hrd, hy, hm, hr⟩ := hrel
      have HM := hid hm
      have HR := hid hr
      have HRD := hid hrd
      have HY := hid hy
      have c1 := hr.bad_cell
      have hbrlt := hr.lt
      clear hm hr hrd hy HM5 HR5
      by_cases h0 : 0 < k
      · have h0I : (0 : Int) < (k : Int) := by omega
        cases hb : st.2
        · rw [hb] at c1
          obtain ⟨k', rfl⟩ : ∃ z, k = z + 1 := ⟨k - 1, by omega⟩
          have HNEXT := hid (rLuts_next hb HRD.out)
          have hls20 : ls.length < 4398046511103 := by omega
          go_upto_region 12 with fail
          clear c1
          obtain ⟨bt, hbt⟩ : ∃ b, wr.heap.size = b := ⟨_, rfl⟩
          have hI := Ins.start wr br
          rw [hbt] at hI ⊢
          have hrA := HR.out.stay (alloc_below wr (.cells #[.slice none 0 0, .int .i64 0] 91))
          generalize wr.alloc (.cells #[.slice none 0 0, .int .i64 0] 91) = wa at *
          obtain ⟨m, hm⟩ : ∃ x, (tk 4 st).1 = x := ⟨_, rfl⟩
          obtain ⟨st12, hst12⟩ : ∃ x, (tk 4 st).2 = x := ⟨_, rfl⟩
          have hm4 : st12.2 = false → m ≤ 4 := fun h => by rw [← hm]; exact tk_most 4 st (by rw [hst12]; exact h)
          have HM4 := hid hm4
          have HI := hid hI
          have HRA := hid hrA
          have HMM := hid hm
          have HST12 := hid hst12
          clear hbt hI hrA hst12 hm hm4
          go_upto_block 4 with (go_at_call 44; (with_reducible refine (num4_at br st s.size hlen _ _ (Below.refl _ _) HRA.out).mono ?_); rintro e w12 ⟨rfl, hr12, hg12⟩; rw [HST12.out] at hr12; rw [HMM.out]; have HI12 := hid (HI.out.read HRA.out hg12); have HR12 := hid hr12; clear hr12 hg12 HI HRA)
          obtain ⟨wr0, rfl⟩ : ∃ wr0 : World, wr0 = wr := ⟨_, rfl⟩
          go_cut [] (fun wx => ∃ ai ci, (rInts m st12).1.length ≤ 4 ∧ Ins wr0 br bt ai ci (rInts m st12).1 wx ∧ Rdr wx br (rInts m st12).2 s.size)
          case first =>
            go_wp2_with fail
            go_loopw [10] (fun v10 wx => ∃ (k : Nat) (ns : List Int) (st' : Rd) (ai : Option Addr) (ci : Nat), v10 = .int .i64 k ∧ ns.length + k = m ∧ ns.length ≤ 4 ∧ (st'.2 = false → m ≤ 4) ∧ rInts m st12 = (ns ++ (rInts k st').1, (rInts k st').2) ∧ Ins wr0 br bt ai ci ns wx ∧ Rdr wx br st' s.size) (fun v10 _ => (intOf v10).toNat)
            case atStart => exact ⟨m, [], st12, none, 0, rfl, by simp, by simp, HM4.out, by simp, HI12.out, HR12.out⟩
            case round =>
              obtain ⟨k, ns, stj, ai, ci, rfl, hns, hn4, hgd, hrdj, hI, hr⟩ := hrel
              have HI := hid hI
              have HRJ := hid hr
              have HRDJ := hid hrdj
              have HGDJ := hid hgd
              have c1 := hr.bad_cell
              have hbrlt := hr.lt
              have hnl : ns.length ≤ 5 := by omega
              clear hI hr hrdj HI12 HR12 hgd
              by_cases h0 : 0 < k
              · have h0I : (0 : Int) < (k : Int) := by omega
                cases hb : stj.2
                · rw [hb] at c1
                  obtain ⟨k2, rfl⟩ : ∃ z, k = z + 1 := ⟨k - 1, by omega⟩
                  have HNX2 := hid (rInts_next hb HRDJ.out)
                  have hm44 := HGDJ.out hb
                  obtain ⟨nx, hnx⟩ : ∃ x, (tkA stj).1 = x := ⟨_, rfl⟩
                  obtain ⟨stk, hstk⟩ : ∃ x, (tkA stj).2 = x := ⟨_, rfl⟩
                  have HNX := hid hnx
                  have HSTK := hid hstk
                  have d0 := cell_block HI.out.box 0; simp only [List.getElem?_toArray, List.getElem?_cons_zero] at d0
                  have hmf := free_block HI.out.box
                  have hblt := boxLt HI.out.box
                  clear hnx hstk
                  obtain ⟨wj, rfl⟩ : ∃ wj : World, wj = wr := ⟨_, rfl⟩
                  go_upto_region 15 with fail
                  clear c1
                  go_region_law (first
                    | ((refine append_held (by rfl) _ _ 24 (by rfl) wr0.heap.size 3 i2 _ 1 8 Tryd.underlying24 hi2 hx0 hx1 hx2 (by rfl) (by decide) (.slice ai ns.length ci) ns.length (ns.map (.int .i64)) (by rfl) ?_ (some ⟨w7.heap.size, 0, none⟩) 1 1 [.int .i64 (nx : Int)] (by rfl) (by intro h; cases h) (by rfl) ?_ (by simp [Value.oneCell']) ?_ ?_ ?_ ?_); (focus ((repeat (first | with_reducible exact HI7.out.row | with_reducible refine World.ownsRow.drew ?_ | with_reducible refine World.ownsRow.alloc ?_ _)); done)); (focus (rintro ad' h j' u hj'; cases h; rw [Addr.add_at]; exact (cell_new _ _ _ _).trans (by simpa using hj'))); (focus (unfold maxLen; omega)); (focus omega); (focus (first | (simp; done) | (simp; omega) | (have := HI7.out.gr.size; simp; omega) | fail)); intro av cv wb HPO HRN hgb; (have P := stepIns (x := (nx : Int)) HI7.out HR7.out (by first | with_reducible exact alloc_below _ _ | with_reducible exact alloc_below_drew _ _ | fail) hgb.out HRN.out); (have cb := cell_block P.1 0; simp only [List.getElem?_toArray, List.getElem?_cons_zero] at cb); have hbf := free_block P.1; have hblt2 := boxLt P.1; have HP := hid P.2; (have hz8 : wr0.heap.size ≤ wb.heap.size := by (have h1 := boxLt P.1; have h2 := HI7.out.new; omega)); clear P)
                    | (go_simp; (with_reducible refine (numA_at br stj s.size hlen wj _ (by first | with_reducible exact Below.refl _ _ | with_reducible exact (Below.refl _ _).drew | fail) HRJ.out).mono ?_); rintro e w7 ⟨rfl, hr, hg⟩; rw [HSTK.out] at hr; rw [HNX.out]; have HR7 := hid hr; have HI7 := hid (HI.out.read HRJ.out hg); (have c7 := cell_block HI7.out.box 0; simp only [List.getElem?_toArray, List.getElem?_cons_zero] at c7); have hf7 := free_block HI7.out.box; have hl7 := boxLt HI7.out.box; have hz7 := HI7.out.gr.size; clear hr hg)
                    | fail)
                  all_goals
                    go_wp2_with fail
                    go_roundw
                    case rel =>
                      have h := HNX2.out
                      rw [HNX.out, HSTK.out] at h
                      exact ⟨k2, ns ++ [(nx : Int)], stk, av, cv, by first | rfl | go_num | (exact val_int (by omega)), by simp; omega, by simp; omega, fun _ => hm44, h, HP.out.1, HP.out.2⟩
                    case measure => simp [intOf]
                · rw [hb] at c1
                  have e3 : rInts m st12 = (ns, stj) := by
                    rw [HRDJ.out, rInts_end k stj (.inr hb)]; simp
                  have H3 := hid e3
                  clear e3
                  go_wp2_with fail
                  go_meet
                  exact ⟨ai, ci, by rw [H3.out]; exact hn4, by rw [H3.out]; exact HI.out, by rw [H3.out]; exact HRJ.out⟩
              · have h0I : decide ((0 : Int) < (k : Int)) = false := decide_eq_false (by omega)
                have e3 : rInts m st12 = (ns, stj) := by
                  rw [HRDJ.out, rInts_end k stj (.inl (by omega))]; simp
                have H3 := hid e3
                clear e3
                go_wp2_with fail
                go_meet
                exact ⟨ai, ci, by rw [H3.out]; exact hn4, by rw [H3.out]; exact HI.out, by rw [H3.out]; exact HRJ.out⟩
          case rest =>
          obtain ⟨ai, ci, hn4, hI, hr⟩ := hcut
          obtain ⟨ns, ens⟩ : ∃ x, (rInts m st12).1 = x := ⟨_, rfl⟩
          obtain ⟨stj, estj⟩ : ∃ x, (rInts m st12).2 = x := ⟨_, rfl⟩
          rw [ens] at hn4 hI
          rw [estj] at hr
          have HI := hid hI
          have HRJ := hid hr
          have HNS := hid ens
          have HSTJ := hid estj
          have hnl : ns.length ≤ 5 := by omega
          clear hI hr ens estj HI12 HR12 HM4
          obtain ⟨wj, rfl⟩ : ∃ wj : World, wj = wc := ⟨_, rfl⟩
          obtain ⟨tb, htb⟩ : ∃ x, (tkA stj).1 = x := ⟨_, rfl⟩
          obtain ⟨stk, hstk⟩ : ∃ x, (tkA stj).2 = x := ⟨_, rfl⟩
          have HTB := hid htb
          have HSTK := hid hstk
          clear htb hstk
          go_upto_region 17 with (go_at_call 44; (with_reducible refine (numA_at br stj s.size hlen _ _ (Below.refl _ _) HRJ.out).mono ?_); rintro e w16 ⟨rfl, hr16, hg16⟩; rw [HSTK.out] at hr16; rw [HTB.out]; have HI16 := hid (HI.out.read HRJ.out hg16); have HR16 := hid hr16; (have d16 := cell_block HI16.out.box 1; simp only [List.getElem?_toArray, List.getElem?_cons_succ, List.getElem?_cons_zero] at d16); have hf16 := free_block HI16.out.box; have hlt16 := boxLt HI16.out.box; clear hr16 hg16 HI HRJ)
          obtain ⟨q1, q2, q3, q4⟩ := HI16.out.done HM.out HR.out HR16.out hbrI (tb : Int)
          clear d16 hf16 hlt16
          generalize w16.setCell ⟨bt, 1, none⟩ (.int .i64 (tb : Int)) = w17 at *
          have Q1 := hid q1
          have Q2 := hid q2
          have Q3 := hid q3
          have Q4 := hid q4
          have e0 := cell_block Q1.out 0; simp only [List.getElem?_toArray, List.getElem?_cons_zero] at e0
          have e1 := cell_block Q1.out 1; simp only [List.getElem?_toArray, List.getElem?_cons_succ, List.getElem?_cons_zero] at e1
          have e2 := lnCell2 Q3.out.box
          have hfn := free_block Q3.out.box
          have hnlt := boxLt Q3.out.box
          have hbtl := boxLt Q1.out
          clear q1 q2 q3 q4
          go_wp2_with (at_builtin; refine wpSrc _ rfl _ _ 28 rfl wz.heap.size 91 i1 _ 2 32 Tryd.underlying28 hi1 hy0 hy1 hy2 rfl (by decide) (.slice y.al ls.length y.cl) ls.length (lutVals ls y.A y.C) rfl (Q3.out.rl.alloc _) (some ⟨w17.heap.size, 0, none⟩) 1 1 [.slice ai ns.length ci, .int .i64 (tb : Int)] rfl (by intro h; cases h) rfl (by rintro ad' h j' u hj'; cases h; rw [Addr.add_at]; exact (cell_new _ _ _ _).trans (by simpa using hj')) (by simp [Value.oneCell']) ?_ ?_ ?_ ?_; (focus (unfold maxLen; omega)); (focus omega); (focus (have := Q3.out.size; simp; omega)); intro av cv wb HPO HRN hgb; (have P := stepLut (tb := (tb : Int)) Q3.out Q4.out hnl Q2.out (alloc_below _ _) hgb.out HRN.out); (have cb := lnCell2 P.1); have hbf := free_block P.1; have hblt2 := boxLt P.1; have HP := hid P.2; clear P)
          go_roundw
          case rel =>
            have e7 : rLut st = (⟨ns, (tb : Int)⟩, stk) := by
              unfold rLut
              rw [HMM.out, HST12.out]
              simp only [HNS.out, HSTJ.out, HTB.out, HSTK.out]
            have h := HNEXT.out
            rw [e7] at h
            exact ⟨k', ls ++ [⟨ns, (tb : Int)⟩], stk, { y with al := av, cl := cv, A := at1 y.A ls.length ai, C := at1 y.C ls.length ci }, by first | rfl | go_num | (exact val_int (by omega)), by simp; omega, h, HY.out, HP.out.1, HP.out.2⟩
          case measure => simp [intOf]
        · rw [hb] at c1
          have e3 : rr5 (bl s) = (ls, st) := by
            rw [E5.out, HRD.out, rLuts_end k st (.inr hb)]; simp
          have H3 := hid e3
          clear e3
          go_wp2_with fail
          go_meet
          exact ⟨y, HY.out, by rw [H3.out]; simp only; omega, by rw [H3.out]; exact HM.out, by rw [H3.out]; exact HR.out⟩
      · have h0I : decide ((0 : Int) < (k : Int)) = false := decide_eq_false (by omega)
        have e3 : rr5 (bl s) = (ls, st) := by
          rw [E5.out, HRD.out, rLuts_end k st (.inl (by omega))]; simp
        have H3 := hid e3
        clear e3
        go_wp2_with fail
        go_meet
        exact ⟨y, HY.out, by rw [H3.out]; simp only; omega, by rw [H3.out]; exact HM.out, by rw [H3.out]; exact HR.out⟩
  case rest =>
  obtain ⟨y, hy, hls20, hm, hr⟩ := hcut
  obtain ⟨ls, els⟩ : ∃ x, (rr5 (bl s)).1 = x := ⟨_, rfl⟩
  obtain ⟨st5, est5⟩ : ∃ x, (rr5 (bl s)).2 = x := ⟨_, rfl⟩
  rw [els] at hls20 hm
  rw [est5] at hr
  clear HM HR HY
  have HLS := hid els
  have HST5 := hid est5
  have HY := hid hy
  have HM := hid hm
  have HR := hid hr
  clear hy hm hr els est5 HM5 HR5 E5 hK4b HK4 HST4
  obtain ⟨w5, rfl⟩ : ∃ wo : World, wo = wc := ⟨_, rfl⟩
  have E6 : Hid (rr6 (bl s) = tkA st5) := by unfold Hid rr6; rw [HST5.out]
  have hK6b : (tkA st5).1 < 4398046511104 := tk_lt _ _
  obtain ⟨K6, hK6⟩ : ∃ x, (tkA st5).1 = x := ⟨_, rfl⟩
  obtain ⟨st6, hst6⟩ : ∃ x, (tkA st5).2 = x := ⟨_, rfl⟩
  have E7 : Hid (rr7 (bl s) = rInts K6 st6) := by unfold Hid rr7; rw [E6.out, hK6, hst6]
  rw [hK6] at hK6b
  have HK6 := hid hK6
  have HST6 := hid hst6
  clear hK6 hst6 E6
  have HO5 : Hid (Out wz w5 br bn { y with ao := none, co := 0 } ⟨g, rs, ls, []⟩ w5) := by
    have h := Out.start (br := br) HM.out rfl HY.out.1 HY.out.2
    have e : y = { y with ao := none, co := 0 } := by
      obtain ⟨h1, h2⟩ := HY.out
      cases y
      simp only at h1 h2
      subst h1 h2
      rfl
    rw [e] at h
    exact h
  go_upto_block 6 with (go_at_call 44; (with_reducible refine (numA_at br st5 s.size hlen _ _ (Below.refl _ _) HR.out).mono ?_); rintro e w6 ⟨rfl, hr6, hg6⟩; rw [HST6.out] at hr6; rw [HK6.out]; have HO6 := hid (HO5.out.read HR.out hg6); have HR6 := hid hr6; clear hr6 hg6)
  go_cut [] (fun wx => ∃ ao co, (rr7 (bl s)).1.length < 4398046511104 ∧ Out wz w5 br bn { y with ao := ao, co := co } ⟨g, rs, ls, (rr7 (bl s)).1⟩ wx ∧ Rdr wx br (rr7 (bl s)).2 s.size)
  case first =>
    go_wp2_with fail
    go_loopw [11] (fun v11 wx => ∃ (k : Nat) (os : List Int) (st : Rd) (ao : Option Addr) (co : Nat), v11 = .int .i64 k ∧ os.length + k = K6 ∧ rInts K6 st6 = (os ++ (rInts k st).1, (rInts k st).2) ∧ Out wz w5 br bn { y with ao := ao, co := co } ⟨g, rs, ls, os⟩ wx ∧ Rdr wx br st s.size) (fun v11 _ => (intOf v11).toNat)
    case atStart => exact ⟨K6, [], st6, none, 0, rfl, by simp, by simp, HO6.out, HR6.out⟩
    case round =>
      obtain ⟨k, os, stj, ao, co, rfl, hos, hrdj, hO, hr⟩ := hrel
      have HO := hid hO
      have HRJ := hid hr
      have HRDJ := hid hrdj
      have c1 := hr.bad_cell
      have hbrlt := hr.lt
      clear hO hr hrdj HO6 HR6
      by_cases h0 : 0 < k
      · have h0I : (0 : Int) < (k : Int) := by omega
        cases hb : stj.2
        · rw [hb] at c1
          obtain ⟨k', rfl⟩ : ∃ z, k = z + 1 := ⟨k - 1, by omega⟩
          have HNEXT := hid (rInts_next hb HRDJ.out)
          have hol : os.length < 4398046511103 := by omega
          obtain ⟨nx, hnx⟩ : ∃ x, (tkA stj).1 = x := ⟨_, rfl⟩
          obtain ⟨stk, hstk⟩ : ∃ x, (tkA stj).2 = x := ⟨_, rfl⟩
          have HNX := hid hnx
          have HSTK := hid hstk
          have f3 := lnCell3 HO.out.box
          have hmf := free_block HO.out.box
          have hblt := boxLt HO.out.box
          have hzo := HO.out.but.size
          clear hnx hstk
          obtain ⟨wj, rfl⟩ : ∃ wj : World, wj = wr := ⟨_, rfl⟩
          go_upto_region 21 with fail
          clear c1
          go_region_law (first
            | ((refine append_held (by rfl) _ _ 24 (by rfl) w5.heap.size 3 i2 _ 1 8 Tryd.underlying24 hi2 hx0 hx1 hx2 (by rfl) (by decide) (.slice ao os.length co) os.length (os.map (.int .i64)) (by rfl) ?_ (some ⟨w7.heap.size, 0, none⟩) 1 1 [.int .i64 (nx : Int)] (by rfl) (by intro h; cases h) (by rfl) ?_ (by simp [Value.oneCell']) ?_ ?_ ?_ ?_); (focus ((repeat (first | with_reducible exact HO7.out.ro | with_reducible refine World.ownsRow.drew ?_ | with_reducible refine World.ownsRow.alloc ?_ _)); done)); (focus (rintro ad' h j' u hj'; cases h; rw [Addr.add_at]; exact (cell_new _ _ _ _).trans (by simpa using hj'))); (focus (unfold maxLen; omega)); (focus omega); (focus (first | (simp; done) | (simp; omega) | (have := HO7.out.but.size; simp; omega) | fail)); intro av cv wb HPO HRN hgb; (have P := stepOut (x := (nx : Int)) HO7.out HR7.out (by first | with_reducible exact alloc_below _ _ | with_reducible exact alloc_below_drew _ _ | fail) hgb.out HRN.out); (have cb := lnCell3 P.1); have hbf := free_block P.1; have hblt2 := boxLt P.1; have HP := hid P.2; (have hz8 : w5.heap.size ≤ wb.heap.size := Nat.le_trans HO7.out.but.size (Nat.le_trans (by first | exact (alloc_below _ _).size | exact (alloc_below_drew _ _).size) hgb.out.size)); clear P)
            | (go_simp; (with_reducible refine (numA_at br stj s.size hlen wj _ (by first | with_reducible exact Below.refl _ _ | with_reducible exact (Below.refl _ _).drew | fail) HRJ.out).mono ?_); rintro e w7 ⟨rfl, hr, hg⟩; rw [HSTK.out] at hr; rw [HNX.out]; have HR7 := hid hr; have HO7 := hid (HO.out.read HRJ.out hg); (have c7 := lnCell3 HO7.out.box); have hf7 := free_block HO7.out.box; have hl7 := boxLt HO7.out.box; have hz7 := HO7.out.but.size; clear hr hg)
            | fail)
          all_goals
            go_wp2_with fail
            go_roundw
            case rel =>
              have h := HNEXT.out
              rw [HNX.out, HSTK.out] at h
              exact ⟨k', os ++ [(nx : Int)], stk, av, cv, by first | rfl | go_num | (exact val_int (by omega)), by simp; omega, h, HP.out.1, HP.out.2⟩
            case measure => simp [intOf]
        · rw [hb] at c1
          have e3 : rr7 (bl s) = (os, stj) := by
            rw [E7.out, HRDJ.out, rInts_end k stj (.inr hb)]; simp
          have H3 := hid e3
          clear e3
          go_wp2_with fail
          go_meet
          exact ⟨ao, co, by rw [H3.out]; simp only; omega, by rw [H3.out]; exact HO.out, by rw [H3.out]; exact HRJ.out⟩
      · have h0I : decide ((0 : Int) < (k : Int)) = false := decide_eq_false (by omega)
        have e3 : rr7 (bl s) = (os, stj) := by
          rw [E7.out, HRDJ.out, rInts_end k stj (.inl (by omega))]; simp
        have H3 := hid e3
        clear e3
        go_wp2_with fail
        go_meet
        exact ⟨ao, co, by rw [H3.out]; simp only; omega, by rw [H3.out]; exact HO.out, by rw [H3.out]; exact HRJ.out⟩
  case rest =>
  obtain ⟨ao, co, hos20, hO, hr⟩ := hcut
  obtain ⟨os, eos⟩ : ∃ x, (rr7 (bl s)).1 = x := ⟨_, rfl⟩
  obtain ⟨st7, est7⟩ : ∃ x, (rr7 (bl s)).2 = x := ⟨_, rfl⟩
  have HRUN : Hid (rrun (bl s) = (⟨g, rs, ls, os⟩, st7)) := by
    unfold Hid rrun
    rw [HRS.out, HLS.out, eos, est7, HG.out]
  rw [eos] at hos20 hO
  rw [est7] at hr
  obtain ⟨w8, rfl⟩ : ∃ wo : World, wo = wc := ⟨_, rfl⟩
  have HO := hid hO
  have HBF := hid (HBZ.out.trans ((hO.below HM.out hbrI).mono (by omega)))
  have hNET : LnIn w8.heap.size w8 bn { y with ao := ao, co := co } ⟨g, rs, ls, os⟩ := by
    obtain ⟨sx, bx, hx3, _, _⟩ := HR.out
    exact hO.net HM.out hx3 rfl rfl rfl rfl rfl rfl rfl rfl (by unfold maxLen; simp only; omega) (by unfold maxLen; simp only; omega) (by unfold maxLen; simp only; omega)
  have HNET := hid hNET
  have R4 : Hid (∀ (w9 : World) (_ : Out wz w5 br bn { y with ao := ao, co := co } ⟨g, rs, ls, os⟩ w9) (wx : World) (_ : ∀ k, wz.heap.size ≤ k → k < w9.heap.size → wx.heap[k]? = w9.heap[k]?), LnRows wx.heap.size wx { y with ao := ao, co := co } ⟨g, rs, ls, os⟩) := by
    obtain ⟨sx, bx, hx3, _, _⟩ := HR.out
    intro w9 hox wx hwx
    exact hox.rows4 HM.out hx3 rfl rfl rfl rfl rfl rfl rfl rfl (by unfold maxLen; simp only; omega) (by unfold maxLen; simp only; omega) (by unfold maxLen; simp only; omega) wx hwx
  have hz8 : w8.heap[w.heap.size]? = some (.cells #[.int .i64 0, .slice none 0 0, .slice none 0 0, .slice none 0 0] 30 (0, 0)) := ((hO.below HM.out hbrI).block w.heap.size hwz).trans HZ0.out
  have HZ8 := hid hz8
  obtain ⟨s7, b7, hx7, hst7, hz7⟩ := hr
  have HST7 := hid hst7
  have g0 : w8.cell? ⟨br, 0, none⟩ = some (.string s7) := (cell_block hx7 0).trans rfl
  have g1 : w8.cell? ⟨br, 1, none⟩ = some (.bool b7) := (cell_block hx7 1).trans rfl
  have hzr := boxLt hx7
  have z0 : w8.cell? ⟨w.heap.size, 0, none⟩ = some (.int .i64 0) := (cell_block hz8 0).trans rfl
  have z1 : w8.cell? ⟨w.heap.size, 1, none⟩ = some (.slice none 0 0) := (cell_block hz8 1).trans rfl
  have z2 : w8.cell? ⟨w.heap.size, 2, none⟩ = some (.slice none 0 0) := (cell_block hz8 2).trans rfl
  have z3 : w8.cell? ⟨w.heap.size, 3, none⟩ = some (.slice none 0 0) := (cell_block hz8 3).trans rfl
  have zf := free_block hz8
  have hwl := boxLt hz8
  clear hO hNET hx7 hst7 hz8 eos est7 HO5 HO6 HR6 E7 hK6b HK6 HST6 HM HR HY
  cases b7
  · by_cases hs7 : s7 = ⟨#[]⟩
    · subst hs7
      have k0 := HNET.out.g
      have k1 := HNET.out.regs
      have k2 := HNET.out.luts
      have k3 := HNET.out.outs
      simp only at k0 k1 k2 k3
      have hbnl : bn < w8.heap.size := HNET.out.hb
      have BB : Hid ((rrun (bl s)).2 = ([], false)) := by unfold Hid; rw [HRUN.out, ← HST7.out]; rfl
      have LB : Hid ((rrun (bl s)).1 = (⟨g, rs, ls, os⟩ : LN)) := by unfold Hid; rw [HRUN.out]
      clear hz7 HST7
      cases hR : (⟨g, rs, ls, os⟩ : LN).right
      · have RW := RefWrite_wrong w8.heap.size { y with ao := ao, co := co } ⟨g, rs, ls, os⟩ w8 HNET.out.rows (Nat.le_refl _) hR
        simp only at RW
        have HRW := hid RW
        have NO : Hid (¬ rparses (bl s)) := fun h => by have h2 := h.2.2.1; rw [LB.out, hR] at h2; cases h2
        clear RW hR
        go_upto_region 25 with (go_at_call 8; (with_reducible refine HRW.out.mono ?_); rintro e w9 ⟨rfl, hb9⟩; have HB9 := hid (HBF.out.trans (hb9.mono HBF.out.size)); have HZ9 := hid ((hb9.block w.heap.size hwl).trans HZ8.out); clear hb9)
        have z0' : w9.cell? ⟨w.heap.size, 0, none⟩ = some (.int .i64 0) := (cell_block HZ9.out 0).trans rfl
        have z1' : w9.cell? ⟨w.heap.size, 1, none⟩ = some (.slice none 0 0) := (cell_block HZ9.out 1).trans rfl
        have z2' : w9.cell? ⟨w.heap.size, 2, none⟩ = some (.slice none 0 0) := (cell_block HZ9.out 2).trans rfl
        have z3' : w9.cell? ⟨w.heap.size, 3, none⟩ = some (.slice none 0 0) := (cell_block HZ9.out 3).trans rfl
        have zf' := free_block HZ9.out
        clear z0 z1 z2 z3 zf
        go_wp2_with fail
        refine bodyPost_ret (results_two rfl _ _ w.heap.size 30 _ (0, 0) _ rfl (set4 HZ9.out _ _ _ _) Tryd.underlying30 rfl (by kernel_rfl)) rfl (.inr ⟨NO.out, rfl, below4 (k := 0) HB9.out _ _ _ _⟩)
      · have RW := RefWrite_right w8.heap.size { y with ao := ao, co := co } ⟨g, rs, ls, os⟩ w8 HNET.out.rows (Nat.le_refl _) hR
        simp only at RW
        have HRW := hid RW
        have HRT := hid hR
        clear RW hR
        go_upto_region 25 with (go_at_call 8; (with_reducible refine HRW.out.mono ?_); rintro e w9 ⟨t, rfl, ht, hb9⟩; have HTT := hid ht; have HB9 := hid (HBF.out.trans (hb9.mono HBF.out.size)); have HZ9 := hid ((hb9.block w.heap.size hwl).trans HZ8.out); have HO9 := hid (HO.out.stay hb9); have HN9 := hid (HNET.out.stay hb9); clear hb9 ht)
        have z0' : w9.cell? ⟨w.heap.size, 0, none⟩ = some (.int .i64 0) := (cell_block HZ9.out 0).trans rfl
        have z1' : w9.cell? ⟨w.heap.size, 1, none⟩ = some (.slice none 0 0) := (cell_block HZ9.out 1).trans rfl
        have z2' : w9.cell? ⟨w.heap.size, 2, none⟩ = some (.slice none 0 0) := (cell_block HZ9.out 2).trans rfl
        have z3' : w9.cell? ⟨w.heap.size, 3, none⟩ = some (.slice none 0 0) := (cell_block HZ9.out 3).trans rfl
        have zf' := free_block HZ9.out
        have m0 := HN9.out.g
        have m1 := HN9.out.regs
        have m2 := HN9.out.luts
        have m3 := HN9.out.outs
        simp only at m0 m1 m2 m3
        have hbn9 := boxLt HO9.out.box
        clear z0 z1 z2 z3 zf k0 k1 k2 k3
        by_cases hts : t = s
        · subst hts
          have YES : Hid (rparses (bl t)) := ⟨by rw [BB.out], by rw [BB.out], by rw [LB.out]; exact HRT.out, by rw [LB.out]; exact HTT.out.symm⟩
          go_wp2_with fail
          refine bodyPost_ret (results_two rfl _ _ w.heap.size 30 _ (0, 0) _ rfl (set4 HZ9.out _ _ _ _) Tryd.underlying30 rfl (by kernel_rfl)) rfl (.inl ⟨YES.out, { y with ao := ao, co := co }, by rw [LB.out]; rfl, by rw [LB.out]; exact fun wx hwx => R4.out w9 HO9.out wx (fun k h1 h2 => (hwx k (by omega) (by simpa [World.setCell] using h2)).trans (four_far (by omega))), below4 (k := 0) HB9.out _ _ _ _⟩)
        · have NO : Hid (¬ rparses (bl s)) := fun h => hts (bl_eq (by rw [HTT.out]; have h2 := h.2.2.2; rw [LB.out] at h2; exact h2))
          have hbe : (t.toList == s.toList) = false := bytesNe2 t s hts
          go_wp2_with fail
          refine bodyPost_ret (results_two rfl _ _ w.heap.size 30 _ (0, 0) _ rfl (set4 HZ9.out _ _ _ _) Tryd.underlying30 rfl (by kernel_rfl)) rfl (.inr ⟨NO.out, rfl, below4 (k := 0) HB9.out _ _ _ _⟩)
    · have hne : ¬ bl s7 = [] := by
        intro h
        apply hs7
        have hl := bl_len s7
        rw [h] at hl
        obtain ⟨⟨l⟩⟩ := s7
        have : l = [] := List.eq_nil_of_length_eq_zero (by simpa [ByteArray.size] using hl.symm)
        subst this
        rfl
      have NO : Hid (¬ rparses (bl s)) := fun h => hne (by have h2 := h.2.1; rw [HRUN.out, ← HST7.out] at h2; exact h2)
      have hbe : (s7.toList == []) = false := bytesNe s7 [] hs7
      clear hne hs7 hz7
      go_wp2_with fail
      refine bodyPost_ret (results_two rfl _ _ w.heap.size 30 _ (0, 0) _ rfl (set4 HZ8.out _ _ _ _) Tryd.underlying30 rfl (by kernel_rfl)) rfl (.inr ⟨NO.out, rfl, below4 (k := 0) HBF.out _ _ _ _⟩)
  · have NO : Hid (¬ rparses (bl s)) := fun h => by have h2 := h.1; rw [HRUN.out, ← HST7.out] at h2; cases h2
    clear hz7
    go_wp2_with fail
    refine bodyPost_ret (results_two rfl _ _ w.heap.size 30 _ (0, 0) _ rfl (set4 HZ8.out _ _ _ _) Tryd.underlying30 rfl (by kernel_rfl)) rfl (.inr ⟨NO.out, rfl, below4 (k := 0) HBF.out _ _ _ _⟩)
end Go.Proofs.YtlaeflpddehipabDoor.Q

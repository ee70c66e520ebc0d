/- image.Write, walked. -/
import Derived.Test.YtlaeflpddehipabDoorWriteMem
import Derived.Laws.IdiomStrings
set_option linter.unusedVariables false
namespace Go.Proofs.YtlaeflpddehipabDoor
open Go.RowKit
attribute [local go_sem ↓] Go.wp_at_zero Go.wp_at_succ

def strOf (l : List Nat) : ByteArray := ⟨(l.map UInt8.ofNat).toArray⟩
theorem bytes_string {w W : World} {l : List Nat} {v : Value} (h : Got w l v W) (hb : AllBytes l) (hl : 1 ≤ l.length) :
    ∃ g n c, v = .slice (some ⟨g, 0, none⟩) n c ∧ (convert 93 9 (.slice (some ⟨g, 0, none⟩) n c)).run Tryd.prog W = .ok (.string (strOf l)) W := by
  obtain ⟨a, c, e, _, _, hc⟩ := Cells.of_owns h.own
  rcases h.own.2 with ⟨rfl, h0⟩ | ⟨g, cap, cur, rfl, _⟩
  · omega
  · refine ⟨g, l.length, cap, rfl, ?_⟩
    have hl2 : (l.map UInt8.ofNat).length = l.length := by simp
    have h1 := run_convert_bytes_back (P := Tryd.prog) W 93 9 5 ⟨g, 0, none⟩ cap (l.map UInt8.ofNat) Tryd.underlying93 Tryd.underlying5 Tryd.underlying9 (fun j hj => by
      have hj' : j < l.length := by simpa using hj
      simp only [Value.slice.injEq] at e
      obtain ⟨rfl, _, rfl⟩ := e
      obtain ⟨b, off, e1, _, hcell⟩ := hc.at (by omega)
      simp only [Option.some.injEq, Addr.mk.injEq, and_true] at e1
      obtain ⟨rfl, rfl⟩ := e1
      have := hcell j (by omega)
      rw [Addr.add_at]
      rw [Nat.zero_add] at this
      rw [this]
      have hlt := hb l[j] (List.getElem_mem hj')
      simp only [List.getD_eq_getElem?_getD, List.getElem?_map, List.getElem?_eq_getElem hj', Option.map_some, Option.getD_some, List.getElem_map]
      unfold byteV
      have : (UInt8.ofNat l[j]).toNat = l[j] := by simp [UInt8.toNat_ofNat', Nat.mod_eq_of_lt hlt]
      rw [this])
    rw [hl2] at h1
    exact h1

/-- What Write hands back of a net that may not be. -/
def NoBytes (w : World) (e : Ending) (w' : World) : Prop := e = .returned (.tuple #[.string ⟨#[]⟩, .iface 33 (.int .i64 1)]) ∧ Below w.heap.size w w'
def SomeBytes (l : List Nat) (w : World) (e : Ending) (w' : World) : Prop := e = .returned (.tuple #[.string (strOf l), .nilIface]) ∧ Below w.heap.size w w'

theorem Write_wrong (B b : Nat) (y : Lay) (L : LN) (w : World) (h : LnIn B w b y L) (hBw : B ≤ w.heap.size) (hr : L.right = false) :
    Calls Tryd.prog 9 #[.pointer (some ⟨b, 0, none⟩)] w (NoBytes w) := by
  have HC := hid (LnRight_any B b y L w h hBw)
  have HR := hid hr
  clear h hr
  go_enter Tryd.func9, Tryd.ntmps9
  go_wp2_with (go_at_call 34; (with_reducible refine HC.out.mono ?_); rintro e w1 ⟨rfl, hbel⟩; rw [HR.out]; have HB := hid hbel; clear hbel)
  go_ret2
  exact ⟨rfl, HB.out⟩

set_option maxRecDepth 100000 in
set_option maxHeartbeats 3200000 in
theorem Write_right (B b : Nat) (y : Lay) (L : LN) (w : World) (h : LnIn B w b y L) (hBw : B ≤ w.heap.size) (hr : L.right = true) :
    Calls Tryd.prog 9 #[.pointer (some ⟨b, 0, none⟩)] w (SomeBytes L.bytes w) := by
  have HC := hid (LnRight_any B b y L w h hBw)
  have hsn := LN.small_numbers hr
  obtain ⟨hsn0, hsn1, hsn2, hsn3, hsn4, hsn5⟩ := hsn
  have HR := hid hr
  have H := hid h
  clear h hr
  go_enter Tryd.func9, Tryd.ntmps9
  go_upto_region 6 with (first
    | (go_at_call 34; (with_reducible refine HC.out.mono ?_); rintro e w1 ⟨rfl, hbel⟩; rw [HR.out]; have HB := hid hbel; have c0 := (H.out.stay (HB.out.mono hBw)).g; clear hbel)
    | (go_at_call 41; (with_reducible refine (number_got (Got.nil w HB.out) (by simp) _ hsn1 (by omega)).mono ?_); rintro e w2 ⟨v2, rfl, hgot, hgr⟩; have HG := hid hgot; have c1 := (H.out.stay (hgot.bel.mono hBw)).regs; clear hgot hgr c0 HB)
    | (go_at_call 41; (with_reducible refine (number_got HG.out (by have := numB_len L.given.toNat; simp; omega) _ (by omega) (by omega)).mono ?_); rintro e w3 ⟨v3, rfl, hgot, hgr⟩; have HG3 := hid hgot; have d1 := (H.out.stay (hgot.bel.mono hBw)).regs; clear hgot hgr c1 HG))
  have hst := HG3.out.eq (show _ = L.part1 0 by simp [LN.part1, LN.head])
  have HST := hid hst
  clear hst HG3
  go_loopw [4, 35] (fun s4 s35 wr => ∃ k : Nat, k ≤ L.regs.length ∧ s35 = .int .i64 k ∧ Got w (L.part1 k) s4 wr) (fun _ s35 _ => L.regs.length - (intOf s35).toNat)
  case atStart => exact ⟨0, Nat.zero_le _, rfl, HST.out⟩
  case round =>
    obtain ⟨k, hk, rfl, hgot⟩ := hrel
    have HG := hid hgot
    have hnet := H.out.stay (hgot.bel.mono hBw)
    have hlen : (L.part1 k).length ≤ 100000000 := Nat.le_trans (LN.part1_len HR.out k) (by decide)
    have HLEN := hid hlen
    clear hgot HST hlen d1
    by_cases hlt : k < L.regs.length
    · have hltI : (k : Int) < (L.regs.length : Int) := by omega
      have hk0 : (0 : Int) ≤ (k : Int) := by omega
      obtain ⟨br, off, hal, hbr, t0, t1⟩ := hnet.rows.rr.two k hlt
      rw [regCell_0] at t0
      rw [regCell_1] at t1
      have hnx := LN.right_reg HR.out hlt
      have SU := hid (L.part1_succ hlt)
      generalize L.regs.getD k LR.zero = r at *
      obtain ⟨ri, rn⟩ := r
      simp only at t0 t1 hnx SU
      obtain ⟨hnx0, hnx1⟩ := hnx
      rw [hal]
      clear hnet
      --[stub
      cases ri
      · go_upto_region 11 with fail
        have hbox := box_new wr (.cells #[.bool false, .int .i64 rn] 88)
        have hbel := (Below.refl wr.heap.size wr).alloc (Nat.le_refl _) (.cells #[.bool false, .int .i64 rn] 88)
        generalize wr.alloc (.cells #[.bool false, .int .i64 rn] 88) = W1 at *
        have HG1 := hid (HG.out.stay hbel)
        have hS1 := cell_block hbox 1
        simp only [List.getElem?_toArray, List.getElem?_cons_succ, List.getElem?_cons_zero] at hS1
        have hbW1 := HG1.out.bel
        have HBOX := hid hbox
        have hle1 : (L.part1 k ++ numB (bit false)).length ≤ 100000000 := by have := LN.part1_len HR.out k; have := numB_len (bit false); rw [List.length_append]; omega
        have HLE1 := hid hle1
        clear hbox hbel HG hle1 t0 t1
        go_region_held3 (fun w' => w'.cell? ⟨wr.heap.size, 1, none⟩ = some (.int .i64 rn) ∧ Below w.heap.size w w')
          ((refine ⟨?_, ?_⟩ <;> first | assumption | (refine Below.drew ?_; assumption)))
          (first
            | (go_at_call 41; (first | (with_reducible refine (number_got HG1.out HLEN.out _ (by decide) (by decide)).mono ?_) | (with_reducible refine (number_got HG1.out.drew HLEN.out _ (by decide) (by decide)).mono ?_)); rintro e w5 ⟨v5, rfl, hgot, hgr⟩; (have hb5 : w5.heap[wr.heap.size]? = some (.cells #[.bool false, .int .i64 rn] 88 (0, 0)) := by first | exact HG1.out.box hgr HBOX.out (by decide) | exact HG1.out.drew.box hgr HBOX.out (by decide)); have hS5 := cell_block hb5 1; simp only [List.getElem?_toArray, List.getElem?_cons_succ, List.getElem?_cons_zero] at hS5; have hbW5 := hgot.bel; have HG5 := hid (hgot.eq (show _ = L.part1 k ++ numB (bit false) from rfl)); have HB5 := hid hb5; clear hgot hgr hb5 HG1)
            | (go_at_call 41; (with_reducible refine (number_got HG5.out HLE1.out _ hnx0 (by omega)).mono ?_); rintro e w6 ⟨v6, rfl, hgot, hgr⟩; have hb6 := HG5.out.box hgr HB5.out (by decide); have hS6 := cell_block hb6 1; simp only [List.getElem?_toArray, List.getElem?_cons_succ, List.getElem?_cons_zero] at hS6; have hbW6 := hgot.bel; have HG6 := hid hgot; clear hgot hgr hb6 HG5)
            | fail)
        go_wp2_with fail
        go_roundw
        case rel => exact ⟨k + 1, by omega, by go_num, HG6.out.eq SU.out.symm⟩
        case measure => simp [intOf]; omega
      · go_upto_region 11 with fail
        have hbox := box_new wr (.cells #[.bool true, .int .i64 rn] 88)
        have hbel := (Below.refl wr.heap.size wr).alloc (Nat.le_refl _) (.cells #[.bool true, .int .i64 rn] 88)
        generalize wr.alloc (.cells #[.bool true, .int .i64 rn] 88) = W1 at *
        have HG1 := hid (HG.out.stay hbel)
        have hS1 := cell_block hbox 1
        simp only [List.getElem?_toArray, List.getElem?_cons_succ, List.getElem?_cons_zero] at hS1
        have hbW1 := HG1.out.bel
        have HBOX := hid hbox
        have hle1 : (L.part1 k ++ numB (bit true)).length ≤ 100000000 := by have := LN.part1_len HR.out k; have := numB_len (bit true); rw [List.length_append]; omega
        have HLE1 := hid hle1
        clear hbox hbel HG hle1 t0 t1
        go_region_held3 (fun w' => w'.cell? ⟨wr.heap.size, 1, none⟩ = some (.int .i64 rn) ∧ Below w.heap.size w w')
          ((refine ⟨?_, ?_⟩ <;> first | assumption | (refine Below.drew ?_; assumption)))
          (first
            | (go_at_call 41; (first | (with_reducible refine (number_got HG1.out HLEN.out _ (by decide) (by decide)).mono ?_) | (with_reducible refine (number_got HG1.out.drew HLEN.out _ (by decide) (by decide)).mono ?_)); rintro e w5 ⟨v5, rfl, hgot, hgr⟩; (have hb5 : w5.heap[wr.heap.size]? = some (.cells #[.bool true, .int .i64 rn] 88 (0, 0)) := by first | exact HG1.out.box hgr HBOX.out (by decide) | exact HG1.out.drew.box hgr HBOX.out (by decide)); have hS5 := cell_block hb5 1; simp only [List.getElem?_toArray, List.getElem?_cons_succ, List.getElem?_cons_zero] at hS5; have hbW5 := hgot.bel; have HG5 := hid (hgot.eq (show _ = L.part1 k ++ numB (bit true) from rfl)); have HB5 := hid hb5; clear hgot hgr hb5 HG1)
            | (go_at_call 41; (with_reducible refine (number_got HG5.out HLE1.out _ hnx0 (by omega)).mono ?_); rintro e w6 ⟨v6, rfl, hgot, hgr⟩; have hb6 := HG5.out.box hgr HB5.out (by decide); have hS6 := cell_block hb6 1; simp only [List.getElem?_toArray, List.getElem?_cons_succ, List.getElem?_cons_zero] at hS6; have hbW6 := hgot.bel; have HG6 := hid hgot; clear hgot hgr hb6 HG5)
            | fail)
        go_wp2_with fail
        go_roundw
        case rel => exact ⟨k + 1, by omega, by go_num, HG6.out.eq SU.out.symm⟩
        case measure => simp [intOf]; omega
      --stub]
    · obtain rfl : k = L.regs.length := by omega
      have c2 := hnet.luts
      clear hnet
      obtain ⟨wo, rfl⟩ : ∃ wo : World, wo = wr := ⟨_, rfl⟩
      go_wp2_with (go_at_call 41; (with_reducible refine (number_got HG.out HLEN.out _ (by omega) (by omega)).mono ?_); rintro e w7 ⟨v7, rfl, hgot, hgr⟩; have HG7 := hid (hgot.eq (show _ = L.part2 0 by simp [LN.part2])); have d2 := (H.out.stay (hgot.bel.mono hBw)).luts; clear hgot hgr HG c2)
      go_loopw [4, 60] (fun s4 s60 wr => ∃ k : Nat, k ≤ L.luts.length ∧ s60 = .int .i64 k ∧ Got w (L.part2 k) s4 wr) (fun _ s60 _ => L.luts.length - (intOf s60).toNat)
      case atStart => exact ⟨0, Nat.zero_le _, rfl, HG7.out⟩
      case round =>
        obtain ⟨k, hk2, rfl, hgot⟩ := hrel
        have HG := hid hgot
        have hnet := H.out.stay (hgot.bel.mono hBw)
        clear HG7 hgot d2 hlt HLEN hk
        by_cases hlt : k < L.luts.length
        · have hltI : (k : Int) < (L.luts.length : Int) := by omega
          have hk0 : (0 : Int) ≤ (k : Int) := by omega
          obtain ⟨bl, off, hal, hbl, t0, t1⟩ := hnet.rows.rl.two k hlt
          rw [lutCell_0] at t0
          rw [lutCell_1] at t1
          have htab := LN.right_tab HR.out hlt
          have SU := hid (L.part2_succ hlt)
          have hins := H.out.rows.ri k hlt
          generalize L.luts.getD k LT.zero = t at *
          obtain ⟨tl, tb⟩ := t
          simp only at t0 t1 htab SU hins
          obtain ⟨htl4, htb0, htb1, htj⟩ := htab
          have HTJ := hid htj
          have HINS := hid hins
          rw [hal]
          clear hnet htj hins
          go_upto_region 17 with fail
          have hbox := box_new wr (.cells #[.slice (y.A k) tl.length (y.C k), .int .i64 tb] 90)
          have hbel := (Below.refl wr.heap.size wr).alloc (Nat.le_refl _) (.cells #[.slice (y.A k) tl.length (y.C k), .int .i64 tb] 90)
          generalize wr.alloc (.cells #[.slice (y.A k) tl.length (y.C k), .int .i64 tb] 90) = W1 at *
          obtain ⟨bx, hbx⟩ : ∃ bx, wr.heap.size = bx := ⟨_, rfl⟩
          rw [hbx] at hbox ⊢
          have HG1 := hid (HG.out.stay hbel)
          have e0 := cell_block hbox 0
          simp only [List.getElem?_toArray, List.getElem?_cons_succ, List.getElem?_cons_zero] at e0
          have HBOX := hid hbox
          have HLE := hid (Nat.le_trans (LN.part2_len HR.out k) (by decide : 800015 ≤ 100000000))
          clear hbox hbel HG t0 t1 hbx
          go_wp2_with (go_at_call 41; (with_reducible refine (number_got HG1.out HLE.out _ (by omega) (by omega)).mono ?_); rintro e w8 ⟨v8, rfl, hgot, hgr⟩; have hb8 := HG1.out.box hgr HBOX.out (by decide); have e8 := cell_block hb8 0; simp only [List.getElem?_toArray, List.getElem?_cons_succ, List.getElem?_cons_zero] at e8; have HB8 := hid hb8; have HG8 := hid (hgot.eq (show _ = L.part2 k ++ numB tl.length ++ insB (tl.take 0) by simp [insB])); clear hgot hgr hb8 e0 HG1)
          obtain ⟨wi, rfl⟩ : ∃ wi : World, wi = wr := ⟨_, rfl⟩
          go_loopw [4, 72] (fun s4 s72 wr => ∃ j : Nat, j ≤ tl.length ∧ s72 = .int .i64 j ∧ Got w (L.part2 k ++ numB tl.length ++ insB (tl.take j)) s4 wr ∧ wr.heap[bx]? = some (.cells #[.slice (y.A k) tl.length (y.C k), .int .i64 tb] 90 (0, 0))) (fun _ s72 _ => tl.length - (intOf s72).toNat)
          case atStart => exact ⟨0, Nat.zero_le _, rfl, HG8.out, HB8.out⟩
          case round =>
            obtain ⟨j, hj, rfl, hgot, hbx⟩ := hrel
            have HG := hid hgot
            have HBX := hid hbx
            have HLE3 : Hid ((L.part2 k ++ numB tl.length ++ insB (tl.take j)).length ≤ 100000000) := by
              have h1 := LN.part2_len HR.out k
              have h2 := numB_len tl.length
              have h3 := insB_len (tl.take j)
              have h4 : (tl.take j).length ≤ 4 := by rw [List.length_take]; omega
              unfold Hid
              simp only [List.length_append]
              omega
            clear HG8 HB8 e8 hgot hbx
            by_cases hltj : j < tl.length
            · have hltjI : (j : Int) < (tl.length : Int) := by omega
              have hj0 : (0 : Int) ≤ (j : Int) := by omega
              obtain ⟨bi, oi, hai, hbi, hci⟩ := (HINS.out.stay (HG.out.bel.mono hBw)).at (by omega)
              have hcj := hci j hltj
              have hjv := HTJ.out j hltj
              have SJ := hid (insB_succ tl hltj)
              generalize tl.getD j 0 = kv at *
              obtain ⟨hjv0, hjv1⟩ := hjv
              rw [hai]
              clear hci
              go_wp2_with (go_at_call 41; (with_reducible refine (number_got HG.out HLE3.out _ hjv0 (by omega)).mono ?_); rintro e w9 ⟨v9, rfl, hgot, hgr⟩; have HB9 := hid (HG.out.box hgr HBX.out (by decide)); have HG9 := hid hgot; clear hgot hgr)
              go_roundw
              case rel => exact ⟨j + 1, by omega, by go_num, HG9.out.eq (by rw [SJ.out, ← List.append_assoc]), (by have h := HB9.out; rw [hai] at h; exact h)⟩
              case measure => simp [intOf]; omega
            · obtain rfl : j = tl.length := by omega
              have e1 := cell_block HBX.out 1
              simp only [List.getElem?_toArray, List.getElem?_cons_succ, List.getElem?_cons_zero] at e1
              go_wp2_with (go_at_call 41; (with_reducible refine (number_got HG.out HLE3.out _ htb0 (by omega)).mono ?_); rintro e wA ⟨vA, rfl, hgot, hgr⟩; have HGA := hid hgot; clear hgot hgr)
              go_roundw
              case rel => exact ⟨k + 1, by omega, by go_num, HGA.out.eq (by rw [SU.out, List.take_length])⟩
              case measure => simp [intOf]; omega
        · obtain rfl : k = L.luts.length := by omega
          have c3 := hnet.outs
          have HLE := hid (Nat.le_trans (LN.part2_len HR.out L.luts.length) (by decide : 800015 ≤ 100000000))
          clear hnet
          obtain ⟨wp, rfl⟩ : ∃ wp : World, wp = wr := ⟨_, rfl⟩
          go_wp2_with (go_at_call 41; (with_reducible refine (number_got HG.out HLE.out _ (by omega) (by omega)).mono ?_); rintro e wB ⟨vB, rfl, hgot, hgr⟩; have HGB := hid (hgot.eq (show _ = L.part3 0 by simp [LN.part3, insB])); have d3 := (H.out.stay (hgot.bel.mono hBw)).outs; clear hgot hgr HG c3)
          go_loopw [4, 97] (fun s4 s97 wr => ∃ j : Nat, j ≤ L.outs.length ∧ s97 = .int .i64 j ∧ Got w (L.part3 j) s4 wr) (fun _ s97 _ => L.outs.length - (intOf s97).toNat)
          case atStart => exact ⟨0, Nat.zero_le _, rfl, HGB.out⟩
          case round =>
            obtain ⟨j, hj, rfl, hgot⟩ := hrel
            have HG := hid hgot
            have HLE3 := hid (Nat.le_trans (LN.part3_len HR.out j) (by decide : 900020 ≤ 100000000))
            clear HGB d3 hgot
            by_cases hltj : j < L.outs.length
            · have hltjI : (j : Int) < (L.outs.length : Int) := by omega
              have hj0 : (0 : Int) ≤ (j : Int) := by omega
              obtain ⟨bo, oo, hao, hbo, hco⟩ := (H.out.stay (HG.out.bel.mono hBw)).rows.ro.at (by omega)
              have hcj := hco j hltj
              have hjv := LN.right_out HR.out hltj
              have SJ := hid (L.part3_succ hltj)
              generalize L.outs.getD j 0 = kv at *
              obtain ⟨hjv0, hjv1⟩ := hjv
              rw [hao]
              clear hco
              go_wp2_with (go_at_call 41; (with_reducible refine (number_got HG.out HLE3.out _ hjv0 (by omega)).mono ?_); rintro e wC ⟨vC, rfl, hgot, hgr⟩; have HGC := hid (hgot.eq SJ.out.symm); clear hgot hgr)
              go_roundw
              case rel => exact ⟨j + 1, by omega, by go_num, HGC.out⟩
              case measure => simp [intOf]; omega
            · obtain rfl : j = L.outs.length := by omega
              obtain ⟨av, nv, cv, hv, hconv⟩ := bytes_string (HG.out.eq (show L.part3 L.outs.length = L.bytes from rfl)) (LN.bytes_byte HR.out) L.bytes_pos
              subst hv
              have HBEL := hid HG.out.bel
              clear HG HLE3
              go_wp2_with fail
              go_ret2
              exact ⟨rfl, HBEL.out⟩
end Go.Proofs.YtlaeflpddehipabDoor

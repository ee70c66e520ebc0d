/- The document's Device.Step (written by gen_dstep.py). -/
import Derived.Test.YtlaeflpddehipabDoorDStep
import Derived.Test.YtlaeflpddehipabDoorRefLnStep
set_option linter.unusedVariables false
set_option linter.unusedSimpArgs false
set_option linter.unusedSectionVars false
namespace Go.Proofs.YtlaeflpddehipabDoor
open Go.RowKit
attribute [local go_sem ↓] Go.wp_at_zero Go.wp_at_succ

theorem rStep {B n1 n2 n3 n4 cgr cg : Nat} {W : World} {L : LN} {y : Lay} {g : Int} {rg ag : Option Addr} {regs given : List Bool} (h : LnRows B W y L) (hr : L.right = true) (hg : L.given = g) (h1 : L.regs.length = n1) (h2 : L.luts.length = n2) (h3 : L.outs.length = n3) (h4 : given.length = n4) (hB : B ≤ W.heap.size)
    (hrl : regs.length = n1) (hrg : Cells W.heap.size W rg n1 (fun j => .bool (regs.getD j false))) (hrn : rg = none → n1 = 0 ∧ cgr = 0) (hgv : Cells W.heap.size W ag n4 (fun j => .bool (given.getD j false))) (hgl : n4 ≤ 1000000) :
    Calls Tryd.prog 56 #[.agg #[.int .i64 g, .slice y.ar n1 y.cr, .slice y.al n2 y.cl, .slice y.ao n3 y.co], .slice rg n1 cgr, .slice ag n4 cg] W fun e w' =>
      ∃ v u, e = .returned (.tuple #[v, u]) ∧ w'.ownsRow W.heap.size 4 1 v n3 ((L.outV regs given).map .bool) ∧ w'.ownsRow W.heap.size 4 1 u n1 ((L.next regs given).map .bool) ∧ Below W.heap.size W w' := by
  subst hg h1 h2 h3 h4
  have key := RefLnStep_any B y L W regs given rg cgr ag cg h hB hr hrl (by rw [hrl]; exact hrg) (by rw [hrl]; exact hrn) hgv hgl
  rw [hrl] at key
  exact key
theorem rb_set2 {C d n : Nat} {a av : Option Addr} {c cv : Nat} {wb : World} {x0 x1 x2 x3 x5 x6 : Value} {l : List Bool} (hC : C ≤ d) (hl : l.length = n) (hm : wb.heap[d]? = some (.cells #[x0, x1, x2, x3, .slice a n c, x5, x6] 113 (0, 0)))
    (hown : wb.ownsRow C 4 1 (.slice av n cv) n (l.map .bool)) : RBox C (wb.setCell ⟨d, 4, none⟩ (.slice av n cv)) d x0 x1 x2 x3 x5 x6 l := by
  subst hl
  exact rb_set hC hm hown
theorem rd_grown {w W : World} {s j : Nat} {v : Value} (hb : Below w.heap.size w W) : w.grownBy (W.setCell ⟨s, j, none⟩ v) (some s) :=
  ⟨hb.os, hb.tape, hb.output, by have := hb.size; simpa [World.setCell] using this, fun k hk hne => (heap_setCell_other _ _ _ _ (fun e => hne (by rw [e]))).trans (hb.block k hk)⟩
theorem rd_low {A d j : Nat} {w : World} {v : Value} (h : A ≤ d) : Below A w (w.setCell ⟨d, j, none⟩ v) :=
  ⟨rfl, rfl, rfl, by simp [World.setCell], fun k hk => heap_setCell_other _ _ _ _ (show k ≠ d by omega)⟩
theorem below_drew {w w' : World} (h : Below w.drew.heap.size w.drew w') : Below w.heap.size w w' := ⟨h.os, h.tape, h.output, h.size, h.block⟩
theorem keep5 {w3 w' : World} {b : Nat} {x0 x1 x2 x3 x4 : Value} (hlt : b < w3.heap.size) (c0 : w3.cell? ⟨b, 0, none⟩ = some x0) (c1 : w3.cell? ⟨b, 1, none⟩ = some x1) (c2 : w3.cell? ⟨b, 2, none⟩ = some x2) (c3 : w3.cell? ⟨b, 3, none⟩ = some x3) (c4 : w3.cell? ⟨b, 4, none⟩ = some x4) (h : Below w3.heap.size w3 w') :
    w'.cell? ⟨b, 0, none⟩ = some x0 ∧ w'.cell? ⟨b, 1, none⟩ = some x1 ∧ w'.cell? ⟨b, 2, none⟩ = some x2 ∧ w'.cell? ⟨b, 3, none⟩ = some x3 ∧ w'.cell? ⟨b, 4, none⟩ = some x4 :=
  ⟨(h.cell (p := ⟨b, 0, none⟩) hlt).trans c0, (h.cell (p := ⟨b, 1, none⟩) hlt).trans c1, (h.cell (p := ⟨b, 2, none⟩) hlt).trans c2, (h.cell (p := ⟨b, 3, none⟩) hlt).trans c3, (h.cell (p := ⟨b, 4, none⟩) hlt).trans c4⟩

set_option maxRecDepth 100000 in
set_option maxHeartbeats 6400000 in
theorem RDStep_any (A B C d n m ng : Nat) (y : Lay) (L : LN) (ai ao ag : Option Addr) (ci co cg : Nat) (ins outs gv : List Int) (regs : List Bool) (W : World)
    (hD : RBox C W d (.int .i64 L.given) (.slice y.ar L.regs.length y.cr) (.slice y.al L.luts.length y.cl) (.slice y.ao L.outs.length y.co) (.slice ai n ci) (.slice ao m co) regs) (hrows : LnRows B W y L) (hB : B ≤ W.heap.size) (hA : A ≤ C) (hC : C ≤ W.heap.size) (hr : L.right = true) (hrl : regs.length = L.regs.length)
    (hci : Cells A W ai n (fun j => .int .i64 (ins.getD j 0))) (hco : Cells A W ao m (fun j => .int .i64 (outs.getD j 0))) (hn20 : n ≤ 20) (hm20 : m ≤ 20) (hol : L.outs.length = wTo outs m) (hgl : gv.length = ng) (hng : ng ≤ 30)
    (hcg : Cells W.heap.size W ag ng (fun j => .int .i64 (gv.getD j 0))) :
    Calls Tryd.prog 27 #[.pointer (some ⟨d, 0, none⟩), .slice ag ng cg] W fun e w' =>
      ∃ v, e = .returned v ∧ w'.ownsRow W.heap.size 3 1 v m ((dOut outs (L.outV regs (dIn ins gv n)) m).map (.int .i64)) ∧
        RBox C w' d (.int .i64 L.given) (.slice y.ar L.regs.length y.cr) (.slice y.al L.luts.length y.cl) (.slice y.ao L.outs.length y.co) (.slice ai n ci) (.slice ao m co) (L.next regs (dIn ins gv n)) ∧ W.grownBy w' (some d) := by
  obtain ⟨i0, hi, hz0, hz1, hz2⟩ := info_parts Tryd.lsInfoBool
  obtain ⟨i2, hi2, hx0, hx1, hx2⟩ := info_parts Tryd.infoOutInt
  have hnx := L.next_len regs (dIn ins gv n)
  obtain ⟨nr, hNr⟩ : ∃ n, L.regs.length = n := ⟨_, rfl⟩
  obtain ⟨nl, hNl⟩ : ∃ n, L.luts.length = n := ⟨_, rfl⟩
  obtain ⟨g, hG⟩ : ∃ n, L.given = n := ⟨_, rfl⟩
  obtain ⟨tu, htu⟩ : ∃ t, wTo outs m = t := ⟨_, rfl⟩
  have htul := wTo_le outs m
  rw [htu] at hol htul
  rw [hNr] at hrl hnx
  rw [hNr, hNl, hG, hol] at hD ⊢
  have HNR := hid hNr
  have HNL := hid hNl
  have HG := hid hG
  have HOL := hid hol
  have HTU := hid htu
  have HNX := hid hnx
  obtain ⟨ar, cr, hCd, hbox, hown⟩ := hD
  rw [hrl] at hbox hown
  have x5 : W.cell? ⟨d, 5, none⟩ = some (.slice ai n ci) := (cell_block hbox 5).trans rfl
  have HCI := hid (hci.mono (Nat.le_trans hA hC))
  have HCOA := hid hco
  have HBOX := hid hbox
  have HOWN := hid hown
  have HROWS := hid hrows
  have HR := hid hr
  have HRL := hid hrl
  have HGL := hid hgl
  have HCG := hid hcg
  clear hbox hown hrows hr hrl hgl hcg hci hco hNr hNl hG hol htu hnx
  go_enter Tryd.func27, Tryd.ntmps27
  go_wp2
  go_loopw [5, 17] (fun v5 v wr => ∃ k : Nat, k ≤ n ∧ v = .int .i64 k ∧ wr.ownsRow W.heap.size 4 1 v5 (wTo ins k) ((dIn ins gv k).map .bool) ∧ Below W.heap.size W wr) (fun _ v _ => n - (intOf v).toNat)
  case atStart => exact ⟨0, Nat.zero_le _, rfl, World.ownsRow_nil _ _ _ _, Below.refl _ _⟩
  case round =>
    obtain ⟨k, hk, rfl, hown, hbe⟩ := hrel
    have hsz := hbe.size
    have HBE := hid hbe
    by_cases hlt : k < n
    · have hkI : (k : Int) < (n : Int) := by omega
      have hk0 : (0 : Int) ≤ (k : Int) := by omega
      obtain ⟨bi, oi, rfl, hbi, hci⟩ := HCI.out.at (by omega)
      have hck := (hbe.cell (p := ⟨bi, oi + k, none⟩) hbi).trans (hci k hlt)
      have hwl := wd_le ins k
      have hto := wTo_le ins k
      have hvl := vbits_len (ins.getD k 0) (gv.getD k 0)
      have HE : Hid (wTo ins (k + 1) = wTo ins k + wd ins k) := rfl
      have hwd : (vwidth (ins.getD k 0)).toNat = wd ins k := rfl
      rw [hwd] at hvl
      obtain ⟨x, hx⟩ : ∃ x, ins.getD k 0 = x := ⟨_, rfl⟩
      obtain ⟨z, hz⟩ : ∃ z, gv.getD k 0 = z := ⟨_, rfl⟩
      obtain ⟨d, hd⟩ : ∃ d, wd ins k = d := ⟨_, rfl⟩
      obtain ⟨t, ht⟩ : ∃ t, wTo ins k = t := ⟨_, rfl⟩
      rw [hd, hx, hz] at hvl
      rw [hx] at hck
      rw [hd] at hwl
      rw [ht] at hto hown
      unfold Hid at HE
      rw [hd, ht] at HE
      have HE' := hid HE
      have HX := hid hx
      have HZ := hid hz
      have HVL := hid hvl
      have HROW := hid hown
      clear hci hwd hx hd ht hvl HE hown
      by_cases hg : k < ng
      · have hgI : (k : Int) < (ng : Int) := by omega
        obtain ⟨bg, og, rfl, hbg, hcg⟩ := HCG.out.at (by omega)
        have hgk := (hbe.cell (p := ⟨bg, og + k, none⟩) hbg).trans (hcg k hg)
        rw [hz] at hgk
        clear hcg hz hbe
        go_wp2_with (first
          | (go_at_call 55; (with_reducible refine (rbits_any x z wr).mono ?_); rintro e w1 ⟨v1, rfl, hv1, hb1⟩; rw [HVL.out] at hv1; obtain ⟨a1, c1, rfl, _, hnil1, hc1⟩ := bitRow3 hv1; have HO1 := hid (rowOld HROW.out hb1); have HB1 := hid (HBE.out.trans (hb1.mono hsz)); have HNEW := hid (bitsNews2 hc1 HVL.out); have HNIL1 := hid hnil1; have hsz1 := hb1.size; clear hv1 hb1 hc1 hnil1)
          | (at_builtin; refine wpSrc _ rfl _ _ 62 rfl W.heap.size 4 i0 _ 1 1 Tryd.underlying62 hi hz0 hz1 hz2 rfl (by decide) _ t ((dIn ins gv k).map .bool) rfl HO1.out a1 d c1 ((vbits x z).map .bool) rfl HNIL1.out (by simpa using HVL.out) HNEW.out (bools_one _) ?_ ?_ ?_ ?_; (focus (unfold maxLen; omega)); (focus omega); (focus omega); intro av cv w2 HP hown2 hg2; have HB2 := hid (HB1.out.grown hg2.out HB1.out.size (fun q hq => (HP.out.lt q hq).1)); have HR2 := hid (dInRow hown2.out HE'.out HX.out HZ.out); clear HP hown2 hg2))
        go_roundw
        case rel => exact ⟨k + 1, hlt, by go_num, by rw [HE'.out]; have h := HR2.out; rw [HE'.out] at h; exact h, HB2.out⟩
        case measure => simp [intOf]; omega
      · have hgI : decide ((k : Int) < (ng : Int)) = false := decide_eq_false (by omega)
        have hgN : ¬ ((k : Int) < (ng : Int)) := by omega
        have hz0 : z = 0 := by
          rw [← hz, List.getD_eq_getElem?_getD, List.getElem?_eq_none (by rw [HGL.out]; omega)]
          rfl
        subst hz0
        clear hz hbe
        go_wp2_with (first
          | (go_at_call 55; (with_reducible refine (rbits_any x 0 wr).mono ?_); rintro e w1 ⟨v1, rfl, hv1, hb1⟩; rw [HVL.out] at hv1; obtain ⟨a1, c1, rfl, _, hnil1, hc1⟩ := bitRow3 hv1; have HO1 := hid (rowOld HROW.out hb1); have HB1 := hid (HBE.out.trans (hb1.mono hsz)); have HNEW := hid (bitsNews2 hc1 HVL.out); have HNIL1 := hid hnil1; have hsz1 := hb1.size; clear hv1 hb1 hc1 hnil1)
          | (at_builtin; refine wpSrc _ rfl _ _ 62 rfl W.heap.size 4 i0 _ 1 1 Tryd.underlying62 hi hz0 hz1 hz2 rfl (by decide) _ t ((dIn ins gv k).map .bool) rfl HO1.out a1 d c1 ((vbits x 0).map .bool) rfl HNIL1.out (by simpa using HVL.out) HNEW.out (bools_one _) ?_ ?_ ?_ ?_; (focus (unfold maxLen; omega)); (focus omega); (focus omega); intro av cv w2 HP hown2 hg2; have HB2 := hid (HB1.out.grown hg2.out HB1.out.size (fun q hq => (HP.out.lt q hq).1)); have HR2 := hid (dInRow hown2.out HE'.out HX.out HZ.out); clear HP hown2 hg2))
        go_roundw
        case rel => exact ⟨k + 1, hlt, by go_num, by rw [HE'.out]; have h := HR2.out; rw [HE'.out] at h; exact h, HB2.out⟩
        case measure => simp [intOf]; omega
    · obtain rfl : k = n := by omega
      obtain ⟨ti, hti⟩ : ∃ t, wTo ins k = t := ⟨_, rfl⟩
      have htil := wTo_le ins k
      have HIL := hid (dIn_len ins gv k)
      unfold Hid at HIL
      rw [hti] at HIL htil hown
      have HIL' := hid HIL
      obtain ⟨a5, c5, rfl, hle5, hnil5, hc5⟩ := bitRow3 hown
      have HC5 := hid hc5
      have HNIL5 := hid hnil5
      obtain ⟨inb, hinb⟩ : ∃ x, x = dIn ins gv k := ⟨_, rfl⟩
      have HINB := hid hinb
      rw [← hinb] at HIL' HC5
      clear hk hlt hown hti HIL hc5 hnil5 hinb
      have hboxr := (hbe.block d (boxLt HBOX.out)).trans HBOX.out
      have hownr := rowOld HOWN.out hbe
      have HROWR := hid (show LnRows B wr.drew y L from (HROWS.out.stay (hbe.mono hB)).stay (Below.refl _ _).drew)
      have HRC := hid (bits_cells hownr)
      have HRN := hid (ownsNil hownr)
      have HBOXR := hid hboxr
      have f0 : wr.cell? ⟨d, 0, none⟩ = some (.int .i64 g) := (cell_block hboxr 0).trans rfl
      have f1 : wr.cell? ⟨d, 1, none⟩ = some (.slice y.ar nr y.cr) := (cell_block hboxr 1).trans rfl
      have f2 : wr.cell? ⟨d, 2, none⟩ = some (.slice y.al nl y.cl) := (cell_block hboxr 2).trans rfl
      have f3 : wr.cell? ⟨d, 3, none⟩ = some (.slice y.ao tu y.co) := (cell_block hboxr 3).trans rfl
      have f4 : wr.cell? ⟨d, 4, none⟩ = some (.slice ar nr cr) := (cell_block hboxr 4).trans rfl
      have hdr := boxLt hboxr
      have hBr : B ≤ wr.heap.size := by omega
      clear hboxr hownr hbe x5
      have hBrd : B ≤ wr.drew.heap.size := hBr
      have hti6 : ti ≤ 1000000 := by omega
      have HRCd := hid (show Cells wr.drew.heap.size wr.drew ar nr (fun j => .bool (regs.getD j false)) from HRC.out)
      have HC5d := hid (show Cells wr.drew.heap.size wr.drew a5 ti (fun j => .bool (inb.getD j false)) from HC5.out)
      go_upto_region 10 with fail
      refine wpEnds.begin (fun w' => w'.cell? ⟨d, 0, none⟩ = some (.int .i64 g) ∧ w'.cell? ⟨d, 1, none⟩ = some (.slice y.ar nr y.cr) ∧ w'.cell? ⟨d, 2, none⟩ = some (.slice y.al nl y.cl) ∧ w'.cell? ⟨d, 3, none⟩ = some (.slice y.ao tu y.co) ∧ w'.cell? ⟨d, 4, none⟩ = some (.slice ar nr cr)) 17 (by kernel_rfl) ⟨f0, f1, f2, f3, f4⟩ (fun hHeld => ?_)
      refine wpEnds.take 0 18 (v := ?va0) rfl (by kernel_rfl) (by kernel_rfl) (by kernel_rfl) (by kernel_rfl) (by kernel_rfl) (fun _ _ _ h => h) (by rfl) hHeld (fun w' hSw => ?hya0) ?resta0
      case hya0 => ((try dsimp only at hSw); go_simp; try with_reducible rfl)
      case resta0 =>
      (try simp only [Act.put, List.setIfInBounds_toArray, List.set_cons_zero, List.set_cons_succ])
      refine wpEnds.take 1 18 (v := ?va1) rfl (by kernel_rfl) (by kernel_rfl) (by kernel_rfl) (by kernel_rfl) (by kernel_rfl) (fun _ _ _ h => h) (by rfl) hHeld (fun w' hSw => ?hya1) ?resta1
      case hya1 => ((try dsimp only at hSw); go_simp; try with_reducible rfl)
      case resta1 =>
      (try simp only [Act.put, List.setIfInBounds_toArray, List.set_cons_zero, List.set_cons_succ])
      refine wpEnds.take 2 18 (v := ?va2) rfl (by kernel_rfl) (by kernel_rfl) (by kernel_rfl) (by kernel_rfl) (by kernel_rfl) (fun _ _ _ h => h) (by rfl) hHeld (fun w' hSw => ?hya2) ?resta2
      case hya2 => ((try dsimp only at hSw); go_simp; try with_reducible rfl)
      case resta2 =>
      (try simp only [Act.put, List.setIfInBounds_toArray, List.set_cons_zero, List.set_cons_succ])
      refine wpEnds.take 3 18 (v := ?va3) rfl (by kernel_rfl) (by kernel_rfl) (by kernel_rfl) (by kernel_rfl) (by kernel_rfl) (fun _ _ _ h => h) (by rfl) hHeld (fun w' hSw => ?hya3) ?resta3
      case hya3 => ((try dsimp only at hSw); go_simp; try with_reducible rfl)
      case resta3 =>
      (try simp only [Act.put, List.setIfInBounds_toArray, List.set_cons_zero, List.set_cons_succ])
      refine wpEnds.take 4 18 (v := ?va4) rfl (by kernel_rfl) (by kernel_rfl) (by kernel_rfl) (by kernel_rfl) (by kernel_rfl) (fun _ _ _ h => h) (by rfl) hHeld (fun w' hSw => ?hya4) ?resta4
      case hya4 => ((try dsimp only at hSw); go_simp; try with_reducible rfl)
      case resta4 =>
      (try simp only [Act.put, List.setIfInBounds_toArray, List.set_cons_zero, List.set_cons_succ])
      refine wpEnds.take 5 18 (v := ?va5) rfl (by kernel_rfl) (by kernel_rfl) (by kernel_rfl) (by kernel_rfl) (by kernel_rfl) (fun _ _ _ h => h) (by rfl) hHeld (fun w' hSw => ?hya5) ?resta5
      case hya5 => ((try dsimp only at hSw); go_simp; try with_reducible rfl)
      case resta5 =>
      (try simp only [Act.put, List.setIfInBounds_toArray, List.set_cons_zero, List.set_cons_succ])
      refine wpEnds.take 6 18 (v := ?va6) rfl (by kernel_rfl) (by kernel_rfl) (by kernel_rfl) (by kernel_rfl) (by kernel_rfl) (fun _ _ _ h => h) (by rfl) hHeld (fun w' hSw => ?hya6) ?resta6
      case hya6 => ((try dsimp only at hSw); go_simp; try with_reducible rfl)
      case resta6 =>
      (try simp only [Act.put, List.setIfInBounds_toArray, List.set_cons_zero, List.set_cons_succ])
      refine wpEnds.take 7 18 (v := ?va7) rfl (by kernel_rfl) (by kernel_rfl) (by kernel_rfl) (by kernel_rfl) (by kernel_rfl) (fun _ _ _ h => h) (by rfl) hHeld (fun w' hSw => ?hya7) ?resta7
      case hya7 => ((try dsimp only at hSw); go_simp; try with_reducible rfl)
      case resta7 =>
      (try simp only [Act.put, List.setIfInBounds_toArray, List.set_cons_zero, List.set_cons_succ])
      refine wpEnds.take 8 18 (v := ?va8) rfl (by kernel_rfl) (by kernel_rfl) (by kernel_rfl) (by kernel_rfl) (by kernel_rfl) (fun _ _ _ h => h) (by rfl) hHeld (fun w' hSw => ?hya8) ?resta8
      case hya8 => ((try dsimp only at hSw); go_simp; try with_reducible rfl)
      case resta8 =>
      (try simp only [Act.put, List.setIfInBounds_toArray, List.set_cons_zero, List.set_cons_succ])
      refine wpEnds.take 9 18 (v := ?va9) rfl (by kernel_rfl) (by kernel_rfl) (by kernel_rfl) (by kernel_rfl) (by kernel_rfl) (fun _ _ _ h => h) (by rfl) hHeld (fun w' hSw => ?hya9) ?resta9
      case hya9 => ((try dsimp only at hSw); go_simp; try with_reducible rfl)
      case resta9 =>
      (try simp only [Act.put, List.setIfInBounds_toArray, List.set_cons_zero, List.set_cons_succ])
      refine wpEnds.one 10 (by kernel_rfl) rfl (fun K hK => ?_)
      go_simp
      go_at_call 56
      with_reducible refine (rStep (W := wr.drew) HROWR.out HR.out HG.out HNR.out HNL.out HOL.out HIL'.out hBrd HRL.out HRCd.out HRN.out HC5d.out hti6).mono ?_
      rintro e wx ⟨vx, ux, rfl, hv, hu, hbx⟩
      obtain ⟨aD, cD, rfl, hleD, _, _⟩ := bitRow3 hv
      obtain ⟨au, cu, rfl, _⟩ := bitRow3 hu
      have HV := hid hv
      have HU := hid (show wx.ownsRow wr.heap.size 4 1 (.slice au nr cu) nr ((L.next regs (dIn ins gv k)).map .bool) from by rw [HINB.out] at hu; exact hu)
      have HBX := hid (below_drew hbx)
      have HS5 := hid (keep5 (w3 := wr) hdr f0 f1 f2 f3 f4 HBX.out)
      clear hv hu hbx
      refine hK.out _ _ HS5.out ?_
      clear hK K
      (try simp only [Act.put, List.setIfInBounds_toArray, List.set_cons_zero, List.set_cons_succ])
      refine wpEnds.take 11 18 (v := ?vb11) rfl (by kernel_rfl) (by kernel_rfl) (by kernel_rfl) (by kernel_rfl) (by kernel_rfl) (fun _ _ _ h => h) (by rfl) HS5.out (fun w' hSw => ?hyb11) ?restb11
      case hyb11 => ((try dsimp only at hSw); go_simp; try with_reducible rfl)
      case restb11 =>
      (try simp only [Act.put, List.setIfInBounds_toArray, List.set_cons_zero, List.set_cons_succ])
      refine wpEnds.take 12 18 (v := ?vb12) rfl (by kernel_rfl) (by kernel_rfl) (by kernel_rfl) (by kernel_rfl) (by kernel_rfl) (fun _ _ _ h => h) (by rfl) HS5.out (fun w' hSw => ?hyb12) ?restb12
      case hyb12 => ((try dsimp only at hSw); go_simp; try with_reducible rfl)
      case restb12 =>
      (try simp only [Act.put, List.setIfInBounds_toArray, List.set_cons_zero, List.set_cons_succ])
      refine wpEnds.take 13 18 (v := ?vb13) rfl (by kernel_rfl) (by kernel_rfl) (by kernel_rfl) (by kernel_rfl) (by kernel_rfl) (fun _ _ _ h => h) (by rfl) HS5.out (fun w' hSw => ?hyb13) ?restb13
      case hyb13 => ((try dsimp only at hSw); go_simp; try with_reducible rfl)
      case restb13 =>
      (try simp only [Act.put, List.setIfInBounds_toArray, List.set_cons_zero, List.set_cons_succ])
      refine wpEnds.take 14 18 (v := ?vb14) rfl (by kernel_rfl) (by kernel_rfl) (by kernel_rfl) (by kernel_rfl) (by kernel_rfl) (fun _ _ _ h => h) (by rfl) HS5.out (fun w' hSw => ?hyb14) ?restb14
      case hyb14 => ((try dsimp only at hSw); go_simp; try with_reducible rfl)
      case restb14 =>
      (try simp only [Act.put, List.setIfInBounds_toArray, List.set_cons_zero, List.set_cons_succ])
      refine wpEnds.take 15 18 (v := ?vb15) rfl (by kernel_rfl) (by kernel_rfl) (by kernel_rfl) (by kernel_rfl) (by kernel_rfl) (fun _ _ _ h => h) (by rfl) HS5.out (fun w' hSw => ?hyb15) ?restb15
      case hyb15 => ((try dsimp only at hSw); go_simp; try with_reducible rfl)
      case restb15 =>
      (try simp only [Act.put, List.setIfInBounds_toArray, List.set_cons_zero, List.set_cons_succ])
      refine wpEnds.take 16 18 (v := ?vb16) rfl (by kernel_rfl) (by kernel_rfl) (by kernel_rfl) (by kernel_rfl) (by kernel_rfl) (fun _ _ _ h => h) (by rfl) HS5.out (fun w' hSw => ?hyb16) ?restb16
      case hyb16 => ((try dsimp only at hSw); go_simp; try with_reducible rfl)
      case restb16 =>
      (try simp only [Act.put, List.setIfInBounds_toArray, List.set_cons_zero, List.set_cons_succ])
      have hboxx := (HBX.out.block d hdr).trans HBOXR.out
      have hbfr := free_block hboxx
      have hblt := boxLt hboxx
      have z4 : wx.cell? ⟨d, 4, none⟩ = some (.slice ar nr cr) := (cell_block hboxx 4).trans rfl
      refine wpEnds.last 17 (by kernel_rfl) (by kernel_rfl) rfl (fun K hK => ?_)
      go_simp
      refine hK.out _ _ ?_
      clear hK K
      (try simp only [Act.put, List.setIfInBounds_toArray, List.set_cons_zero, List.set_cons_succ])
      have HRB := hid (rb_set2 hCd HNX.out hboxx (lsBase HU.out (Nat.le_trans hC HBE.out.size)))
      have hboxD : (wx.setCell ⟨d, 4, none⟩ (.slice au nr cu)).heap[d]? = some (.cells #[.int .i64 g, .slice y.ar nr y.cr, .slice y.al nl y.cl, .slice y.ao tu y.co, .slice au nr cu, .slice ai k ci, .slice ao m co] 113 (0, 0)) := by
        rw [boxSet hboxx 4]
        simp
      have HCD := hid (bits_cells (rowSet HV.out hboxx (by decide) 4 (.slice au nr cu)))
      have HBW := hid (HBE.out.trans (HBX.out.mono HBE.out.size))
      have HGW := hid (rd_grown (s := d) (j := 4) (v := .slice au nr cu) HBW.out)
      have HCO := hid (((HCOA.out.stay (HBW.out.mono (Nat.le_trans hA hC))).stay (rd_low (j := 4) (v := .slice au nr cu) (Nat.le_trans hA hCd))).mono (Nat.le_trans (Nat.le_trans hA hC) HGW.out.size))
      generalize wx.setCell ⟨d, 4, none⟩ (.slice au nr cu) = wD at *
      have y2 : wD.cell? ⟨d, 6, none⟩ = some (.slice ao m co) := (cell_block hboxD 6).trans rfl
      have HBS : Hid ((L.outV regs inb).length = tu) := by unfold Hid; rw [L.outV_len, HOL.out]
      obtain ⟨bs, hbs⟩ : ∃ x, x = L.outV regs inb := ⟨_, rfl⟩
      have HBSE := hid hbs
      rw [← hbs] at HBS HCD
      clear hbs f0 f1 f2 f3 f4 HS5 hHeld z4 hbfr hboxx hblt HV HU HBX HBE HROWR HRC HRN HBOXR hboxD HBW
      go_wp2_with fail
      clear y2
      go_loopw [9, 5, 57] (fun v9 v5 v wr => ∃ (k mm cc : Nat) (aa : Option Addr), k ≤ m ∧ v = .int .i64 k ∧ v5 = .slice aa mm cc ∧ mm + wTo outs k = tu ∧ mm ≤ cc ∧ Cells wD.heap.size wD aa mm (fun j => .bool ((bs.drop (wTo outs k)).getD j false)) ∧ wr.ownsRow wD.heap.size 3 1 v9 k ((dOut outs bs k).map (.int .i64)) ∧ Below wD.heap.size wD wr) (fun _ _ v _ => m - (intOf v).toNat)
      case atStart => exact ⟨0, tu, cD, aD, Nat.zero_le _, rfl, rfl, Nat.add_zero _, hleD, by simpa [wTo] using HCD.out, World.ownsRow_nil _ _ _ _, Below.refl _ _⟩
      case round =>
        obtain ⟨k2, mm, cc, aa, hk, rfl, rfl, hmm, hcc, hca, hown, hbe⟩ := hrel
        have hsz := hbe.size
        have HBE := hid hbe
        by_cases hlt : k2 < m
        · have hkI : (k2 : Int) < (m : Int) := by omega
          have hk0 : (0 : Int) ≤ (k2 : Int) := by omega
          obtain ⟨bo, oo, rfl, hbo, hco⟩ := HCO.out.at (by omega)
          have hck := (hbe.cell (p := ⟨bo, oo + k2, none⟩) hbo).trans (hco k2 hlt)
          have hwi := wd_int outs k2
          have hwl := wd_le outs k2
          have hmono := wTo_mono outs (show k2 + 1 ≤ m from hlt)
          have HE : wTo outs (k2 + 1) = wTo outs k2 + wd outs k2 := rfl
          rw [HE, HTU.out] at hmono
          obtain ⟨x, hx⟩ : ∃ x, outs.getD k2 0 = x := ⟨_, rfl⟩
          obtain ⟨e, he⟩ : ∃ d, wd outs k2 = d := ⟨_, rfl⟩
          obtain ⟨t, ht⟩ : ∃ t, wTo outs k2 = t := ⟨_, rfl⟩
          rw [hx, he] at hwi
          rw [hx] at hck
          rw [he] at hwl
          rw [ht, he] at hmono HE
          rw [ht] at hmm hca
          have HWI := hid hwi
          have HEK := hid he
          have HTK := hid ht
          have HE' := hid HE
          have HCA := hid hca
          have HROW := hid hown
          have hem : e ≤ mm := by omega
          have heI : (0 : Int) ≤ (e : Int) := by omega
          have hemI : (e : Int) ≤ (mm : Int) := by omega
          have hecI : (e : Int) ≤ (cc : Int) := by omega
          have HTL := hid (show e = ((bs.drop t).take e).length by simp [HBS.out]; omega)
          have HCH := hid (hca.head hem)
          have HMM := hid hmm
          obtain ⟨z, hz⟩ : ∃ z, vof ((bs.drop t).take e) = z := ⟨_, rfl⟩
          have HZ := hid hz
          clear hco hwi hx he ht HE hca hown hbe hz hmm
          go_wp2_with (first
            | (go_at_call 50; (with_reducible refine (rwidth_any x _).mono ?_); rintro e w1 ⟨rfl, hw1⟩; subst w1; rw [HWI.out])
            | (go_at_call 57; (with_reducible refine (rof_any wD.heap.size _ e _ ((bs.drop t).take e) _ HTL.out (by unfold maxLen; omega) (by first | exact HCH.out.stay HBE.out | exact (HCH.out.stay HBE.out).any0)).mono ?_); rintro e9 w1 ⟨rfl, hw1⟩; subst w1; rw [HZ.out])
            | (at_builtin; refine wpList_push _ wD wr rfl _ _ 24 rfl 3 i2 (.int .i64 0) 1 8 Tryd.underlying24 hi2 hx0 hx1 hx2 rfl (by decide) wD.heap.size _ _ _ rfl HROW.out 1 1 _ rfl rfl rfl rfl ?c3 ?c4 HBE.out (Nat.le_refl _) hsz ?_))
          case c3 => unfold maxLen; omega
          case c4 => omega
          intro v' w9 hown3 hbel3 _ _
          have HO3 := hid (dOutRow hown3 HZ.out HTK.out HEK.out)
          have HB3 := hid hbel3
          clear hown3 hbel3
          go_wp2_with (go_at_call 50; (with_reducible refine (rwidth_any x _).mono ?_); rintro e w1 ⟨rfl, hw1⟩; subst w1; rw [HWI.out])
          go_roundw
          case rel =>
            refine ⟨k2 + 1, mm - e, cc - e, _, hlt, by go_num, rfl, by rw [HE'.out]; have := HMM.out; omega, by omega, ?_, HO3.out, HB3.out⟩
            rw [HE'.out, ← List.drop_drop]
            have hp := HCA.out.part hem hcc
            rw [Nat.mul_one] at hp
            exact hp
          case measure => simp [intOf]; omega
        · obtain rfl : k2 = m := by omega
          go_wp2_with fail
          go_ret
          have e1 := HBSE.out
          subst e1
          have e2 := HINB.out
          subst e2
          exact ⟨_, rfl, lsBase hown HGW.out.size, HRB.out.stay HBE.out, grown_stay HGW.out HBE.out⟩
end Go.Proofs.YtlaeflpddehipabDoor

/- The law: what ladder reads, prints and does is the document's. -/
import Derived.Test.YtlaeflpddehipabGreatDoorRfBody
import Derived.Test.YtlaeflpddehipabGreatDoorSameSt
import Derived.Test.YtlaeflpddehipabGreatDoorRepeat
import Derived.Test.YtlaeflpddehipabGreatDoorPlaceAt
import Derived.Laws.StructEq
import Derived.BigQuiet
import Derived.Deep.QuietTactic
set_option linter.unusedVariables false
set_option linter.unusedSimpArgs false
namespace Go.Proofs.YtlaeflpddehipabGreatDoor
open Go.RowKit
attribute [local go_sem ↓] Go.wp_at_zero Go.wp_at_succ

/-- What the law's worlds hold. -/
structure Ready (w : World) : Prop where
  kept : Kept w
  mx : Mx w
  fin : Fin0 w
  et : ErrType w
theorem Ready.below {w w' : World} (h : Ready w) (hb : Below w.heap.size w w') : Ready w' := ⟨h.kept.below hb, h.mx.below hb, h.fin.below hb, h.et.stay hb⟩
theorem is_ok (w : World) : Calls Tryz.prog 7 #[.nilIface, .agg #[.int .i64 0, .int .i64 (-1)]] w fun e w' => e = .returned (.bool true) ∧ Below w.heap.size w w' := is_place .nilIface 0 (-1) w (fun W _ => Place_nil W)
theorem is_bad (x i : Int) (g : Nat) (w : World) (he : ErrType w) (hg : w.heap[g]? = some (.cells #[.int .i64 x, .int .i64 i] 65 (0, 0))) : Calls Tryz.prog 7 #[.iface 64 (.pointer (some ⟨g, 0, none⟩)), .agg #[.int .i64 x, .int .i64 i]] w fun e w' => e = .returned (.bool true) ∧ Below w.heap.size w w' :=
  is_place _ x i w (fun W hb => Place_at x i g W (he.stay hb) ((hb.block g (boxLt hg)).trans hg))
theorem draw33 (m : Int) : ∃ k : Nat, k ≤ 32 ∧ wrap64 ((IntKind.u64.wrap m).tmod 33) = (k : Int) := by
  have h1 : IntKind.u64.wrap m = m % 18446744073709551616 := by rw [IntKind.wrap_u64]
  have h2 : 0 ≤ m % 18446744073709551616 := Int.emod_nonneg _ (by decide)
  have h3 : (IntKind.u64.wrap m).tmod 33 = (m % 18446744073709551616) % 33 := by rw [h1, Int.tmod_eq_emod_of_nonneg h2]
  have h4 : 0 ≤ (m % 18446744073709551616) % 33 := Int.emod_nonneg _ (by decide)
  have h5 : (m % 18446744073709551616) % 33 < 33 := Int.emod_lt_of_pos _ (by decide)
  refine ⟨((m % 18446744073709551616) % 33).toNat, by omega, ?_⟩
  rw [h3, Int.toNat_of_nonneg h4]
  unfold wrap64
  omega
def lawText (s : Bs) (k : Nat) : Nat → Bs
  | 0 => s
  | 1 => repB [97, 32, 40, 98, 41, 10] k ++ s
  | _ => ((repB [91] (k % 12) ++ [97]) ++ repB [93] (k % 12)) ++ [40, 98, 41]
theorem lawText_len (s : Bs) (hs : s.length ≤ 1000) (k : Nat) (hk : k ≤ 32) (t : Nat) : (lawText s k t).length ≤ 1000000 := by
  match t with
  | 0 => simp only [lawText]; omega
  | 1 => simp only [lawText, List.length_append, repB_len, List.length_cons, List.length_nil]; omega
  | _ + 2 => simp only [lawText, List.length_append, repB_len, List.length_cons, List.length_nil]; omega
theorem cells_at {w : World} {t : Tr} {v v' : Value} (h1 : t.tot ≤ 1000000) (h2 : t.wf false) (h : SAt w t v) (h' : SAt w t v') (n : Nat) : Calls Tryz.prog 8 #[v, v'] (w.drewN n) fun e w' => e = .returned (.bool true) ∧ ∃ m, w' = w.drewN m :=
  quiet_more (sameCells_any _ t (Nat.lt_succ_self _) h1 h2 v v' (w.drewN n) (h.drewN n) (h'.drewN n))
theorem stmts_at {w : World} {gs : List Rg} {v v' : Value} (hl : gs.length ≤ 30) (h : QSAt w (bodyE gs 0) v) (h' : QSAt w (bodyE gs 0) v') : Calls Tryz.prog 11 #[v, v'] w fun e w' => e = .returned (.bool true) ∧ Below w.heap.size w w' :=
  sameStmts_any _ (bodyE gs 0) (Nat.lt_succ_self _) (by have := bodyE_tot gs 0; omega) v v' w h h'
set_option maxRecDepth 100000 in
set_option maxHeartbeats 3200000 in
theorem law_any (s : Bs) (m : Int) (w : World) (hr : Ready w) : Calls Tryz.prog 3 #[st s, .int .i64 m] w fun e w' => e = .returned (.bool true) ∧ Below w.heap.size w w' := by
  have HR := hid hr
  clear hr
  have hsz := st_size s
  go_enter Tryz.func3, Tryz.ntmps3
  by_cases hlen : 1000 < s.length
  · have hlI : (1000 : Int) < (s.length : Int) := by omega
    go_wp2_with fail
    go_ret
    exact ⟨rfl, Below.refl _ _⟩
  · have hlI : ¬ (1000 : Int) < (s.length : Int) := by omega
    go_upto_region 4 with fail
    obtain ⟨k, hk32, hk⟩ := draw33 m
    have hk12 : k % 12 ≤ 11 := by omega
    rw [hk]
    obtain ⟨q, hq12⟩ : ∃ q, k % 12 = q := ⟨_, rfl⟩
    have hm12 : (k : Int) % 12 = (q : Int) := by omega
    have HQ := hid hq12
    obtain ⟨R1, hR1⟩ : ∃ R, repB [97, 32, 40, 98, 41, 10] k = R := ⟨_, rfl⟩
    obtain ⟨R2, hR2⟩ : ∃ R, repB [91] q = R := ⟨_, rfl⟩
    obtain ⟨R3, hR3⟩ : ∃ R, repB [93] q = R := ⟨_, rfl⟩
    have hl1 : R1.length ≤ 192 := by have := repB_len [97, 32, 40, 98, 41, 10] k; rw [hR1] at this; simp at this; omega
    have hl2 : R2.length ≤ 11 := by have := repB_len [91] q; rw [hR2] at this; simp at this; omega
    have hl3 : R3.length ≤ 11 := by have := repB_len [93] q; rw [hR3] at this; simp at this; omega
    obtain ⟨T1, hT1⟩ : ∃ T, R1 ++ s = T := ⟨_, rfl⟩
    obtain ⟨y2, hy2⟩ : ∃ T, R2 ++ [97] = T := ⟨_, rfl⟩
    obtain ⟨y3, hy3⟩ : ∃ T, y2 ++ R3 = T := ⟨_, rfl⟩
    obtain ⟨T2, hT2⟩ : ∃ T, y3 ++ [40, 98, 41] = T := ⟨_, rfl⟩
    have e1 : (⟨R1.toArray⟩ : ByteArray) ++ ⟨s.toArray⟩ = ⟨T1.toArray⟩ := by rw [str_app, hT1]
    have e2 : (⟨R2.toArray⟩ : ByteArray) ++ ⟨#[97]⟩ = ⟨y2.toArray⟩ := by rw [show (⟨#[97]⟩ : ByteArray) = ⟨([97] : Bs).toArray⟩ from rfl, str_app, hy2]
    have e3 : (⟨y2.toArray⟩ : ByteArray) ++ ⟨R3.toArray⟩ = ⟨y3.toArray⟩ := by rw [str_app, hy3]
    have e4 : (⟨y3.toArray⟩ : ByteArray) ++ ⟨#[40, 98, 41]⟩ = ⟨T2.toArray⟩ := by rw [show (⟨#[40, 98, 41]⟩ : ByteArray) = ⟨([40, 98, 41] : Bs).toArray⟩ from rfl, str_app, hT2]
    have hy2l : y2.length ≤ 12 := by rw [← hy2]; simp; omega
    have hy3l : y3.length ≤ 23 := by rw [← hy3]; simp; omega
    have q1 : ¬ 9223372036854775807 < R1.length + s.length := by omega
    have q2 : ¬ 9223372036854775807 < R2.length + 1 := by omega
    have q3 : ¬ 9223372036854775807 < y2.length + R3.length := by omega
    have q4 : ¬ 9223372036854775807 < y3.length + 3 := by omega
    have z1 := st_size R1
    have z2 := st_size R2
    have z3 := st_size R3
    have zy2 := st_size y2
    have zy3 := st_size y3
    have HT0 := hid (show lawText s k 0 = s from rfl)
    have HT1 := hid (show lawText s k 1 = T1 by rw [← hT1, ← hR1]; rfl)
    have HT2 := hid (show lawText s k 2 = T2 by rw [← hT2, ← hy3, ← hy2, ← hR2, ← hR3, ← hq12]; rfl)
    have HTL := hid (lawText_len s (by omega) k hk32)
    have HR1 := hid hR1
    have HR2 := hid hR2
    have HR3 := hid hR3
    clear hT1 hT2 hy2 hy3 hR1 hR2 hR3 hk hq12
    go_upto_region 5 with (first
      | (go_at_call 4; (with_reducible refine (repeat_any [97, 32, 40, 98, 41, 10] (by decide) k (by omega) w).mono ?_); rintro e w1 ⟨rfl, hw1⟩; subst w1; rw [HR1.out])
      | (go_at_call 4; (with_reducible refine (repeat_any [91] (by decide) q (by omega) w).mono ?_); rintro e w1 ⟨rfl, hw1⟩; subst w1; rw [HR2.out])
      | (go_at_call 4; (with_reducible refine (repeat_any [93] (by decide) q (by omega) w).mono ?_); rintro e w1 ⟨rfl, hw1⟩; subst w1; rw [HR3.out]))
    generalize hw0 : World.alloc w _ = w0
    have hb0 : Below w.heap.size w w0 := by rw [← hw0]; exact (Below.refl _ _).alloc (Nat.le_refl _) _
    have hbt : w0.heap[w.heap.size]? = some (.cells #[st s, st T1, st T2] 9 (0, 0)) := by rw [← hw0]; exact heap_alloc_new w _
    have hget : ∀ j, j < 3 → (#[st s, st T1, st T2] : Array Value)[j]? = some (st (lawText s k j)) := by
      intro j hj
      rcases (show j = 0 ∨ j = 1 ∨ j = 2 by omega) with rfl | rfl | rfl
      · rw [HT0.out]; rfl
      · rw [HT1.out]; rfl
      · rw [HT2.out]; rfl
    have HB0 := hid hb0
    have HBT := hid hbt
    have HGET := hid hget
    have hlt := boxLt hbt
    clear hw0 hb0 hbt hget e1 e2 e3 e4 q1 q2 q3 q4 z1 z2 z3 zy2 zy3 hm12 hy2l hy3l hl1 hl2 hl3 hlI hlen hsz
    go_upto_region 6 with fail
    go_loopw [7] (fun u wr => ∃ t : Nat, u = .int .i64 (t : Int) ∧ t ≤ 3 ∧ Below w0.heap.size w0 wr) (fun u _ => 3 - (intOf u).toNat)
    case atStart => exact ⟨0, rfl, by omega, Below.refl _ _⟩
    case round =>
      obtain ⟨t, rfl, ht, hb⟩ := hrel
      have HBW := hid (HB0.out.trans (hb.mono HB0.out.size))
      have HRW := hid (HR.out.below HBW.out)
      have HBT1 := hid ((hb.block _ hlt).trans HBT.out)
      have HB := hid hb
      clear hb
      by_cases ht3 : t = 3
      · have htI : ¬ (t : Int) < 3 := by omega
        go_wp2_with fail
        go_ret
        exact ⟨rfl, HBW.out⟩
      · have htI : (t : Int) < 3 := by omega
        have ht0 : (0 : Int) ≤ (t : Int) := by omega
        have htn : t < 3 := by omega
        have HTN := hid (show t + 1 ≤ 3 by omega)
        obtain ⟨T, hT⟩ : ∃ T, lawText s k t = T := ⟨_, rfl⟩
        have hTl : T.length ≤ 1000000 := by rw [← hT]; exact HTL.out t
        have cT : wr.cell? ⟨w.heap.size, t, none⟩ = some (st T) := by rw [← hT]; exact (cell_block HBT1.out t).trans (HGET.out t htn)
        obtain ⟨res, hres⟩ : ∃ res, runLn (splitLn T) 0 [] = res := ⟨_, rfl⟩
        have HRU := hid (rungs_any T hTl wr HRW.out.mx HRW.out.fin)
        rw [hres] at HRU
        have HRES := hid hres
        have HTL2 := hid hTl
        have hlw := boxLt HBT1.out
        have HTT := hid hT
        clear hT hres hTl
        cases res with
        | ok gs =>
          obtain ⟨hgwf, hg30⟩ := parsed_wf HRES.out
          have HWF := hid (show ∀ g ∈ gs, g.wf 1000000 from fun g hg => (hgwf g hg).mono HTL2.out)
          clear hgwf
          go_upto_region 9 with (go_at_call 5; (with_reducible refine HRU.out.mono ?_); rintro e w1 ⟨h1, v1, rfl, hv1⟩; obtain ⟨a1, c1, rfl⟩ := hv1.form; have HV1 := hid hv1.at'; have HB1 := hid h1; clear h1 hv1)
          generalize hw2 : World.alloc w1 _ = w2
          have hb2 : Below w1.heap.size w1 w2 := by rw [← hw2]; exact (Below.refl _ _).alloc (Nat.le_refl _) _
          have hbF : w2.heap[w1.heap.size]? = some (.cells #[.int .i64 0, .int .i64 (-1)] 28 (0, 0)) := by rw [← hw2]; exact heap_alloc_new w1 _
          clear hw2
          have HV2 := hid (HV1.out.below hb2)
          have HB2 := hid (HB1.out.trans (hb2.mono HB1.out.size))
          have HBF2 := hid hbF
          clear cT hb2 hbF
          obtain ⟨bF, hbFe⟩ : ∃ b, w1.heap.size = b := ⟨_, rfl⟩
          rw [hbFe] at HBF2 ⊢
          clear hbFe
          have HBT2 := hid ((HB2.out.block _ hlw).trans HBT1.out)
          have cT : w2.cell? ⟨w.heap.size, t, none⟩ = some (st T) := by have h := (cell_block HBT2.out t).trans (HGET.out t htn); rwa [HTT.out] at h
          have HRW2 := hid (HRW.out.below HB2.out)
          have HPA := hid (parse_any T HTL2.out w2 HRW2.out.kept)
          have hlF := boxLt HBF2.out
          rw [HRES.out] at HPA
          go_upto_region 10 with (go_at_call 6; (with_reducible refine HPA.out.mono ?_); rintro e w3 ⟨h3, v3, rfl, hv3⟩; obtain ⟨a3, c3, rfl⟩ := hv3.form; have HP3 := hid hv3.at'; have HB3 := hid h3; clear h3 hv3)
          have HF3 := hid ((HB3.out.block bF hlF).trans HBF2.out)
          have hlF3 := boxLt HF3.out
          have y0 : w3.cell? ⟨bF, 0, none⟩ = some (.int .i64 0) := (cell_block HF3.out 0).trans rfl
          have y1 : w3.cell? ⟨bF, 1, none⟩ = some (.int .i64 (-1)) := (cell_block HF3.out 1).trans rfl
          have hnn : ((gs.length : Int) != (gs.length : Int)) = false := by simp
          have hnD : decide ((gs.length : Int) = (gs.length : Int)) = true := decide_eq_true rfl
          clear cT
          go_upto_region 12 with (go_at_call 7; (with_reducible refine (is_ok w3).mono ?_); rintro e w4 ⟨rfl, h4⟩; have HB4 := hid h4; clear h4)
          have HV4 := hid ((HV2.out.below HB3.out).below HB4.out)
          have HP4 := hid (HP3.out.below HB4.out)
          have HF4 := hid ((HB4.out.block bF hlF3).trans HF3.out)
          have HBE4 := hid (show Below wr.heap.size wr w4 from HB2.out.trans ((HB3.out.trans (HB4.out.mono HB3.out.size)).mono HB2.out.size))
          have HRW4 := hid (HRW.out.below HBE4.out)
          have HB04 := hid (HB.out.trans (HBE4.out.mono HB.out.size))
          clear y0 y1
          go_upto_region 13 with fail
          go_loopw [12] (fun u wx => (∃ m, wx = w4.drewN m) ∧ ∃ i : Nat, u = .int .i64 (i : Int) ∧ i ≤ gs.length) (fun u _ => gs.length - (intOf u).toNat)
          case atStart => exact ⟨⟨0, rfl⟩, 0, rfl, Nat.zero_le _⟩
          case round =>
            obtain ⟨⟨m2, hwx⟩, i, rfl, hi⟩ := hrel
            have HX := hid hwx
            have hbx : Below w4.heap.size w4 wr := by rw [hwx]; exact below_drewN (Below.refl _ _) m2
            have HVX := hid (HV4.out.below hbx)
            have HPX := hid (HP4.out.below hbx)
            have HFX := hid ((hbx.block bF (boxLt HF4.out)).trans HF4.out)
            have HRX := hid (HRW4.out.below hbx)
            have HBX := hid (HB04.out.trans (hbx.mono HB04.out.size))
            clear hbx hwx
            by_cases hig : i < gs.length
            · have hiI : (i : Int) < (gs.length : Int) := by omega
              have hi0 : (0 : Int) ≤ (i : Int) := by omega
              have HI1 := hid (show i + 1 ≤ gs.length from hig)
              obtain ⟨r, hr⟩ : ∃ r, gs[i]? = some r := ⟨_, List.getElem?_eq_getElem hig⟩
              have hwfr := HWF.out r (List.mem_of_getElem? hr)
              have hgl : gs.length ≠ 0 := by omega
              obtain ⟨aa, ca, ea, hca, ha⟩ := HVX.out
              injection ea with ea _ ea2
              subst ea ea2
              obtain ⟨g1, rfl, hg1⟩ := ha.resolve_left hgl
              obtain ⟨ab, cb, eb, hcb, hb'⟩ := HPX.out
              injection eb with eb _ eb2
              subst eb eb2
              obtain ⟨g3, rfl, hg3⟩ := hb'.resolve_left hgl
              obtain ⟨⟨vx, x0, xs⟩, x1, x2⟩ := hg1.parts hr
              obtain ⟨⟨vy, y0, ys⟩, y1, y2'⟩ := hg3.parts hr
              rw [Nat.zero_add] at x0 x1 x2 y0 y1 y2'
              have HXS := hid xs
              have HYS := hid ys
              obtain ⟨ax, cx, rfl, _, _⟩ := HXS.out
              obtain ⟨ay, cy, rfl, _, _⟩ := HYS.out
              have HWR := hid hwfr
              have hsn : (r.name == r.name) = true := by simp
              have hkn : (r.kind != r.kind) = false := by simp
              clear ha hg1 hb' hg3 xs ys hwfr hr hca hcb
              go_upto_region 15 with fail
              go_quiet ((go_at_call 8; with_reducible exact cells_at HWR.out.tot HWR.out.cells HYS.out HXS.out _))
              go_wp2_with fail
              go_roundw
              case rel => exact ⟨⟨m2 + nq, by rw [HX.out, World.drewN_drewN]⟩, i + 1, by go_num, HI1.out⟩
              case measure => simp [intOf]; omega
            · have hiI : ¬ (i : Int) < (gs.length : Int) := by omega
              have x0 : wr.cell? ⟨bF, 0, none⟩ = some (.int .i64 0) := (cell_block HFX.out 0).trans rfl
              have x1 : wr.cell? ⟨bF, 1, none⟩ = some (.int .i64 (-1)) := (cell_block HFX.out 1).trans rfl
              have f0 := HRX.out.fin.2.1
              have f1 := HRX.out.fin.2.2
              have hps : (ptext gs == ptext gs) = true := by simp
              have hpn : (ptext gs != ptext gs) = false := by simp
              go_wp2_with (first
                | (go_at_call 9; (with_reducible refine (print_any gs HWF.out hg30 _ wr HPX.out).mono ?_); rintro e w5 ⟨rfl, h5⟩; have HB5 := hid h5; clear h5)
                | (go_at_call 10; (with_reducible refine (printR_any gs HWF.out hg30 _ w5 (HVX.out.below HB5.out)).mono ?_); rintro e w6 ⟨rfl, h6⟩; have HB6 := hid (HB5.out.trans (h6.mono HB5.out.size)); clear h6)
                | (go_at_call 12; (with_reducible refine (body_any gs HWF.out hg30 _ w6 (HPX.out.below HB6.out)).mono ?_); rintro e w7 ⟨v7, rfl, hv7, h7⟩; obtain ⟨a7, c7, rfl⟩ := hv7.form; have HQ7 := hid hv7.at'; have HB7 := hid (HB6.out.trans (h7.mono HB6.out.size)); clear h7 hv7)
                | (go_at_call 13; (with_reducible refine (bodyR_any gs HWF.out hg30 _ w7 (HVX.out.below HB7.out)).mono ?_); rintro e w8 ⟨v8, rfl, hv8, h8⟩; obtain ⟨a8, c8, rfl⟩ := hv8.form; have HQ8 := hid hv8.at'; have HQ7' := hid (HQ7.out.below h8); have HB8 := hid (HB7.out.trans (h8.mono HB7.out.size)); clear h8 hv8)
                | (go_at_call 11; (with_reducible refine (stmts_at hg30 HQ7'.out HQ8.out).mono ?_); rintro e w9 ⟨rfl, h9⟩; have HB9 := hid (HBX.out.trans ((HB8.out.trans (h9.mono HB8.out.size)).mono HBX.out.size)); clear h9))
              go_roundw
              case rel => exact ⟨t + 1, by go_num, HTN.out, HB9.out⟩
              case measure => simp [intOf]; omega
        | bad x i =>
          go_upto_region 9 with (go_at_call 5; (with_reducible refine HRU.out.mono ?_); rintro e w1 ⟨h1, rfl⟩; have HB1 := hid h1; clear h1)
          generalize hw2 : World.alloc w1 _ = w2
          have hb2 : Below w1.heap.size w1 w2 := by rw [← hw2]; exact (Below.refl _ _).alloc (Nat.le_refl _) _
          have hbF : w2.heap[w1.heap.size]? = some (.cells #[.int .i64 x, .int .i64 (i : Int)] 28 (0, 0)) := by rw [← hw2]; exact heap_alloc_new w1 _
          clear hw2
          have HB2 := hid (HB1.out.trans (hb2.mono HB1.out.size))
          have HBF2 := hid hbF
          clear cT hb2 hbF
          obtain ⟨bF, hbFe⟩ : ∃ b, w1.heap.size = b := ⟨_, rfl⟩
          rw [hbFe] at HBF2 ⊢
          clear hbFe
          have HBT2 := hid ((HB2.out.block _ hlw).trans HBT1.out)
          have cT : w2.cell? ⟨w.heap.size, t, none⟩ = some (st T) := by have h := (cell_block HBT2.out t).trans (HGET.out t htn); rwa [HTT.out] at h
          have HRW2 := hid (HRW.out.below HB2.out)
          have HPA := hid (parse_any T HTL2.out w2 HRW2.out.kept)
          have hlF := boxLt HBF2.out
          rw [HRES.out] at HPA
          go_upto_region 10 with (go_at_call 6; (with_reducible refine HPA.out.mono ?_); rintro e w3 ⟨h3, g, _, rfl, hg⟩; have HG3 := hid hg; have HB3 := hid h3; clear h3 hg)
          have HF3 := hid ((HB3.out.block bF hlF).trans HBF2.out)
          have HRW3 := hid (HRW2.out.below HB3.out)
          have hlF3 := boxLt HF3.out
          have y0 : w3.cell? ⟨bF, 0, none⟩ = some (.int .i64 x) := (cell_block HF3.out 0).trans rfl
          have y1 : w3.cell? ⟨bF, 1, none⟩ = some (.int .i64 (i : Int)) := (cell_block HF3.out 1).trans rfl
          clear cT
          go_upto_region 12 with (go_at_call 7; (with_reducible refine (is_bad x (i : Int) g w3 HRW3.out.et HG3.out).mono ?_); rintro e w4 ⟨rfl, h4⟩; have HB4 := hid h4; clear h4)
          have HF4 := hid ((HB4.out.block bF hlF3).trans HF3.out)
          have HBE4 := hid (show Below wr.heap.size wr w4 from HB2.out.trans ((HB3.out.trans (HB4.out.mono HB3.out.size)).mono HB2.out.size))
          have HRW4 := hid (HRW.out.below HBE4.out)
          have HB04 := hid (HB.out.trans (HBE4.out.mono HB.out.size))
          clear y0 y1
          go_upto_region 13 with fail
          go_loopw [12] (fun u wx => u = .int .i64 0 ∧ wx = w4) (fun _ _ => 0)
          case atStart => exact ⟨rfl, rfl⟩
          case round =>
            obtain ⟨rfl, hwx⟩ := hrel
            subst hwx
            have x0 : wr.cell? ⟨bF, 0, none⟩ = some (.int .i64 x) := (cell_block HF4.out 0).trans rfl
            have x1 : wr.cell? ⟨bF, 1, none⟩ = some (.int .i64 (i : Int)) := (cell_block HF4.out 1).trans rfl
            have f0 := HRW4.out.fin.2.1
            have f1 := HRW4.out.fin.2.2
            have hi1 : ¬ (i : Int) = -1 := by omega
            have hd1 : decide ((i : Int) = -1) = false := decide_eq_false hi1
            by_cases hx : x = 0
            · subst hx
              go_wp2_with fail
              go_roundw
              case rel => exact ⟨t + 1, by go_num, HTN.out, HB04.out⟩
              case measure => simp [intOf]; omega
            · have hd0 : decide (x = 0) = false := decide_eq_false hx
              go_wp2_with fail
              go_roundw
              case rel => exact ⟨t + 1, by go_num, HTN.out, HB04.out⟩
              case measure => simp [intOf]; omega
end Go.Proofs.YtlaeflpddehipabGreatDoor

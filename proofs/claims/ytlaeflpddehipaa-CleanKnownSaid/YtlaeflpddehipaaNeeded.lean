/- clean.needed, walked. -/
import Derived.Test.YtlaeflpddehipaaNeedMem
set_option linter.unusedVariables false
namespace Go.Proofs.Ytlaeflpddehipaa
open Go.RowKit
attribute [local go_sem ↓] Go.wp_at_zero Go.wp_at_succ

theorem wrap_lowN (n : Nat) (h : n < 9223372036854775808) : IntKind.i64.wrap (n : Int) = (n : Int) := by
  unfold IntKind.wrap
  have e1 : IntKind.i64.min = -9223372036854775808 := by decide
  have e2 : IntKind.i64.max = 9223372036854775807 := by decide
  simp [IntKind.signed, IntKind.bits]
  omega
/-- How much is left to be done, read off the memory. -/
def isNo : Value → Bool
  | .bool false => true
  | _ => false
def lenV : Value → Nat
  | .slice _ n _ => n
  | _ => 0
def measW (br b4 : Nat) (w : World) : Nat :=
  (match w.heap[br]? with | some (.cells bs _ _) => 2 * bs.toList.countP isNo | _ => 0) + (match w.heap[b4]? with | some (.cells cs _ _) => lenV (cs.getD 0 undef) | _ => 0)
theorem countP_bools (l : List Bool) : (l.map Value.bool).countP isNo = l.count false := by
  induction l with
  | nil => rfl
  | cons x r ih => cases x <;> simp [List.countP_cons, isNo, ih]
theorem NeedAt.meas {B b3 b4 br : Nat} {av : Option Addr} {cv : Nat} {need : List Bool} {wait : List Int} {W : World} (h : NeedAt B b3 b4 br av cv need wait W) : measW br b4 W = Go.Proofs.Ytlaeflpddehipaa.meas need wait := by
  unfold measW Go.Proofs.Ytlaeflpddehipaa.meas
  have h1 := h.row
  unfold Row at h1
  rw [h1, h.box4]
  simp only [bools, lenV]
  rw [countP_bools]
  rfl
/-- So far: what is marked and what waits. -/
def NeedRel (N : Net) (B : Nat) (w : World) (b3 b4 br : Nat) (wr : World) : Prop :=
  ∃ need wait av cv, NeedAt B b3 b4 br av cv need wait wr ∧ WsInv N need wait (fun _ => False) ∧ (∀ j, j < N.outs.length → need.getD (N.outs.getD j 0).toNat false = true) ∧ Go.Proofs.Ytlaeflpddehipaa.meas need wait ≤ 40000 ∧ Below B w wr
def OutsRelN (N : Net) (B : Nat) (w : World) (b3 b4 br : Nat) (v : Value) (wr : World) : Prop :=
  ∃ (k : Nat) (need : List Bool) (wait : List Int) (av : Option Addr) (cv : Nat), k ≤ N.outs.length ∧ v = .int .i64 k ∧ NeedAt B b3 b4 br av cv need wait wr ∧ WsInv N need wait (fun _ => False) ∧ (∀ j, j < k → need.getD (N.outs.getD j 0).toNat false = true) ∧ Go.Proofs.Ytlaeflpddehipaa.meas need wait ≤ 40000 ∧ Below B w wr

theorem NeedAt.start (w : World) (n : Nat) : NeedAt w.heap.size (w.heap.size + 1) (w.heap.size + 1 + 1) w.heap.size none 0 (List.replicate n false) [] (((w.alloc (.cells (bools (List.replicate n false)) 4)).alloc (.cells #[.slice (some ⟨w.heap.size, 0, none⟩) n n] 41)).alloc (.cells #[.slice none 0 0] 24)) ∧
    Below w.heap.size w (((w.alloc (.cells (bools (List.replicate n false)) 4)).alloc (.cells #[.slice (some ⟨w.heap.size, 0, none⟩) n n] 41)).alloc (.cells #[.slice none 0 0] 24)) := by
  have hb : Below w.heap.size w (((w.alloc (.cells (bools (List.replicate n false)) 4)).alloc (.cells #[.slice (some ⟨w.heap.size, 0, none⟩) n n] 41)).alloc (.cells #[.slice none 0 0] 24)) := (((Below.refl w.heap.size w).alloc (Nat.le_refl _) _).alloc (by simp) _).alloc (by simp; omega) _
  refine ⟨⟨by omega, by omega, Nat.le_refl _, by simp; omega, ?_, ?_, World.ownsRow_nil _ _ _ _, ?_⟩, hb⟩
  · have h := box_at (w.alloc (.cells (bools (List.replicate n false)) 4)) (.cells #[.slice (some ⟨w.heap.size, 0, none⟩) n n] 41)
    rw [World.size_alloc] at h
    rw [List.length_replicate]
    exact box_under2 _ h
  · have h := box_at ((w.alloc (.cells (bools (List.replicate n false)) 4)).alloc (.cells #[.slice (some ⟨w.heap.size, 0, none⟩) n n] 41)) (.cells #[.slice none 0 0] 24)
    rw [World.size_alloc, World.size_alloc] at h
    exact h
  · exact box_under2 _ (box_under2 _ (box_at _ _))
theorem wait_le_meas (need : List Bool) (wait : List Int) : wait.length ≤ Go.Proofs.Ytlaeflpddehipaa.meas need wait := by unfold Go.Proofs.Ytlaeflpddehipaa.meas; omega
theorem replicate_meas (n : Nat) : Go.Proofs.Ytlaeflpddehipaa.meas (List.replicate n false) [] = 2 * n := by
  unfold Go.Proofs.Ytlaeflpddehipaa.meas; simp

set_option maxRecDepth 100000 in
set_option maxHeartbeats 12800000 in
theorem needed_any (B b : Nat) (a : Option Addr) (c : Nat) (a' : Option Addr) (c' : Nat) (N : Net) (w : World) (h : NetIn B w b a c a' c' N) (hr : N.right = true) (hB : B ≤ w.heap.size) :
    Calls Try.prog 75 #[.pointer (some ⟨b, 0, none⟩)] w fun e w' => ∃ br need, e = .returned (.slice (some ⟨br, 0, none⟩) N.nodes.length N.nodes.length) ∧ need.length = N.nodes.length ∧ IsNeed N need ∧ Row w' br need ∧ w.heap.size ≤ br ∧ Below w.heap.size w w' := by
  obtain ⟨hg0, hg1, hn20, ho20⟩ := Net.right_sizes hr
  have hmk := Try.make_bools N.nodes.length (by omega)
  have hmf : ∀ (fn : Fn) (first cap : Array Value) (w : World), (Instr.makeFunc fn first cap).run Try.prog w = .ok (.func fn first cap) w := fun _ _ _ _ => rfl
  have n1 := h.nodes
  have n2 := h.outs
  have hltb := Nat.lt_of_lt_of_le h.hb hB
  have HN := hid h
  have HR := hid hr
  clear h hr
  go_enter Try.func75, Try.ntmps75
  go_upto_region 4 with fail
  obtain ⟨hst, hbel⟩ := NeedAt.start w N.nodes.length
  obtain ⟨br, hbr⟩ : ∃ x, w.heap.size = x := ⟨_, rfl⟩
  obtain ⟨b3, hb3⟩ : ∃ x, w.heap.size + 1 = x := ⟨_, rfl⟩
  obtain ⟨b4, hb4⟩ : ∃ x, w.heap.size + 1 + 1 = x := ⟨_, rfl⟩
  rw [hb4, hb3, hbr] at hst ⊢
  rw [hbr] at hbel hB hltb
  generalize ((w.alloc (.cells (bools (List.replicate N.nodes.length false)) 4)).alloc (.cells #[.slice (some ⟨br, 0, none⟩) N.nodes.length N.nodes.length] 41)).alloc (.cells #[.slice none 0 0] 24) = w3 at *
  have HST := hid hst
  have HBEL := hid hbel
  have HBR := hid hbr
  have n2' := (hbel.cell (p := ⟨b, 2, none⟩) hltb).trans n2
  clear hst hbel hb4 hb3 hbr hmk n1 n2
  go_wp2_with fail
  go_loopw [21] (fun v wr => OutsRelN N br w b3 b4 br v wr) (fun v _ => N.outs.length - (intOf v).toNat)
  case atStart => exact ⟨0, _, _, _, _, Nat.zero_le _, rfl, HST.out, WsInv.start N, fun j hj => absurd hj (Nat.not_lt_zero _), by rw [replicate_meas]; omega, HBEL.out⟩
  case round =>
    obtain ⟨k, need, wait, av, cv, hle, rfl, hat, hinv, hout, hms, hbl⟩ := hrel
    have HAT := hid hat
    have HINV := hid hinv
    have HOUT := hid hout
    have HBL := hid hbl
    clear hat hinv hout hbl
    by_cases hlt : k < N.outs.length
    · obtain ⟨bo, oo, rfl, hbo, hco⟩ := HN.out.ro.at (by omega)
      have hz := Net.out_at HR.out hlt
      have ck := (HBL.out.cell (p := ⟨bo, oo + k, none⟩) (Nat.lt_of_lt_of_le hbo hB)).trans (hco k hlt)
      obtain ⟨y, hy⟩ : ∃ y : Nat, N.outs.getD k 0 = (y : Int) := ⟨_, (Int.toNat_of_nonneg hz.1).symm⟩
      rw [hy] at ck
      have hyn : y < need.length := by rw [HINV.out.len]; omega
      have hwl : wait.length ≤ 100000 := by unfold Go.Proofs.Ytlaeflpddehipaa.meas at hms; omega
      have hltI : ((k : Nat) : Int) < (N.outs.length : Int) := by omega
      have hbowr := Nat.lt_of_lt_of_le (Nat.lt_of_lt_of_le hbo hB) HAT.out.hB
      have HY := hid hy
      have HCO := hid hco
      clear hy hco hz
      go_wp2_with (go_at_call 83; (with_reducible refine (add_any y hyn hwl wr HAT.out).mono ?_); rintro e w5 ⟨rfl, hat5, hk5, hb5⟩; have HAT5 := hid hat5; have HB5 := hid (HBL.out.trans hb5); clear hat5 hk5 hb5)
      go_roundw
      case rel =>
        obtain ⟨av5, cv5, hat5⟩ := HAT5.out
        have hym : y < N.nodes.length := by rw [← HINV.out.len]; exact hyn
        have hry : Reach N y := by
          have h := Reach.out (N := N) k hlt
          rw [HY.out, Int.toNat_natCast] at h
          exact h
        refine ⟨k + 1, _, _, av5, cv5, hlt, by go_num, hat5, HINV.out.add hym hry, ?_, Nat.le_trans (addW_meas need wait hyn) hms, HB5.out⟩
        intro j hj
        by_cases e : j = k
        · subst e
          rw [HY.out, Int.toNat_natCast]
          exact addW_marks need wait hyn
        · exact addW_mono need wait y (HOUT.out j (by omega))
      case measure => simp [intOf]; omega
    · obtain rfl : k = N.outs.length := by omega
      clear hlt hle
      go_wp2_with fail
      go_loopw [] (fun wx => NeedRel N br w b3 b4 br wx) (fun wx => measW br b4 wx)
      case atStart => exact ⟨_, _, _, _, HAT.out, HINV.out, HOUT.out, hms, HBL.out⟩
      case round =>
        obtain ⟨need2, wait2, av2, cv2, hat, hinv, hout, hms2, hbl⟩ := hrel
        rcases List.eq_nil_or_concat wait2 with rfl | ⟨wt, kz, rfl⟩
        · have c3 := hat.c3
          have c4 := hat.c4
          simp only [List.length_nil] at c4
          have hlen := hinv.len
          rw [hlen] at c3
          have HAT2 := hid hat
          have HD := hid (hinv.done HR.out hout)
          have HL2 := hid hlen
          have HBL2 := hid hbl
          clear hat hinv hout hbl hlen
          go_wp2_with fail
          go_ret
          rw [HBR.out]
          exact ⟨br, need2, rfl, HL2.out, HD.out, HAT2.out.row, Nat.le_refl _, HBL2.out⟩
        · rw [List.concat_eq_append] at *
          have c4 := hat.c4
          have e1 : (wt ++ [kz]).length = wt.length + 1 := by simp
          have hkz := hinv.wok kz (by simp)
          obtain ⟨y, rfl⟩ : ∃ y : Nat, kz = (y : Int) := ⟨_, (Int.toNat_of_nonneg hkz.1).symm⟩
          have hyN : y < N.nodes.length := by omega
          obtain ⟨b5, rfl, hb5, _, _, hcap, hcell⟩ := own_cells hat.rw (by omega)
          have c5 := hcell wt.length (by omega)
          rw [List.getElem?_map, List.getElem?_append_right (Nat.le_refl _), Nat.sub_self] at c5
          have c5' : wr.cell? ⟨b5, wt.length, none⟩ = some (.int .i64 ((y : Nat) : Int)) := c5
          rw [e1] at c4 hcap
          have HNW := HN.out.stay (hbl.mono hB)
          obtain ⟨b1, off, rfl, hb1, d0, d1, d2, d3⟩ := HNW.node y hyN
          have n1 := HNW.nodes
          have hb1w := Nat.lt_of_lt_of_le (Nat.lt_of_lt_of_le hb1 hB) hat.hB
          have hbw := Nat.lt_of_lt_of_le hltb hat.hB
          have hb4w := boxLt hat.box4
          have hyI : ((y : Nat) : Int) < (N.nodes.length : Int) := by omega
          have hk := node_all (Net.right_at HR.out hyN)
          have hnode : nodeAt N.nodes y = N.nodes.getD y GN.zero := by unfold nodeAt; rw [Int.toNat_natCast]
          have hop : opAt N.nodes y = (N.nodes.getD y GN.zero).op := by unfold opAt; rw [hnode]
          obtain ⟨x, hx⟩ : ∃ x, N.nodes.getD y GN.zero = x := ⟨_, rfl⟩
          rw [hx] at d0 d1 d2 d3 hk hnode hop
          obtain ⟨o, p, q, n⟩ := x
          simp only at d0 d1 d2 d3 hk hop
          clear hx
          have hry : Reach N y := hinv.sound y hyN (by have := hkz.2.2; rwa [Int.toNat_natCast] at this)
          have hpop := hinv.pop
          rw [Int.toNat_natCast] at hpop
          have hmp := meas_pop need2 wt (y : Int)
          have hmeas := hat.meas
          have HAT2 := hid hat
          have HPOP := hid hpop
          have HOUT2 := hid hout
          have HBL2 := hid hbl
          have HK := hid hk
          have HNODE := hid hnode
          have HOP := hid hop
          have HRY := hid hry
          have HMEAS := hid hmeas
          clear hat hinv hout hbl hk hnode hop hry hpop hmeas c5 hcell HNW e1
          have hwl : wt.length ≤ 40000 := by unfold Go.Proofs.Ytlaeflpddehipaa.meas at hms2; simp at hms2; omega
          have hwrap := wrap_lowN wt.length (by omega)
          have hwI : ((wt.length : Nat) : Int) < (wt.length : Int) + 1 := by omega
          go_upto_region 10 with fail
          go_region
          obtain ⟨b8, hb8⟩ : ∃ z, wr.heap.size = z := ⟨_, rfl⟩
          rw [hb8]
          have hbelA := (mk_alloc_drew wr (.cells #[.int .i64 o, .int .i64 p, .int .i64 q, .int .i64 n] 52))
          have hat8 := HAT2.out.stay hbelA
          have hbox8 : (wr.alloc (.cells #[.int .i64 o, .int .i64 p, .int .i64 q, .int .i64 n] 52)).drew.heap[b8]? = some (.cells #[.int .i64 o, .int .i64 p, .int .i64 q, .int .i64 n] 52 (0, 0)) := by rw [← hb8]; exact box_at _ _
          have hbl8 := HBL2.out.trans (hbelA.mono HAT2.out.hB)
          generalize (wr.alloc (.cells #[.int .i64 o, .int .i64 p, .int .i64 q, .int .i64 n] 52)).drew = w8 at *
          have c48 := hat8.c4
          have hf48 := free_block hat8.box4
          have hb48 := boxLt hat8.box4
          have e1 : (wt ++ [(y : Int)]).length = wt.length + 1 := by simp
          rw [e1] at c48
          obtain ⟨hat9, hkn9⟩ := hat8.pop
          have hbox9 := hkn9 b8 _ _ hbox8 (by decide) (by decide) (by decide)
          have hbl9 := hbl8.setCell (p := ⟨b4, 0, none⟩) hat8.h4 (.slice (some ⟨b5, 0, none⟩) wt.length cv2)
          have HAT9 := hid hat9
          have HBOX9 := hid hbox9
          have HBL9 := hid hbl9
          clear hat8 hbox8 hbl8 hat9 hkn9 hbox9 hbl9 hbelA d0 d1 d2 d3 n1 c4 c5' e1
          go_upto_region 12 with fail
          generalize w8.setCell ⟨b4, 0, none⟩ (.slice (some ⟨b5, 0, none⟩) wt.length cv2) = w9 at *
          have z0 := (cell_block HBOX9.out 0).trans (List.getElem?_toArray.trans rfl)
          have z1 := (cell_block HBOX9.out 1).trans (List.getElem?_toArray.trans rfl)
          have z2 := (cell_block HBOX9.out 2).trans (List.getElem?_toArray.trans rfl)
          have z3 := (cell_block HBOX9.out 3).trans (List.getElem?_toArray.trans rfl)
          have hwl1 : wt.length ≤ 100000 := by omega
          clear hwrap hwI c48 hf48 hb48 hkz hyI
          rcases HK.out with (rfl | rfl) | ⟨rfl, _⟩ | ⟨rfl, _, hn0, hn1⟩ | ⟨rfl, hp0, hp1⟩ | ⟨ho, hp0, hp1, hq0, hq1⟩
          · go_wp2_with fail
            go_roundw
            case rel => exact ⟨need2, wt, _, _, HAT9.out, HPOP.out.close ⟨fun e => absurd (HOP.out.symm.trans e) (by decide), fun e => absurd e (by rw [HOP.out]; decide), fun e => absurd e (by rw [HOP.out]; decide)⟩, HOUT2.out, by omega, HBL9.out⟩
            case measure => rw [HAT9.out.meas, HMEAS.out]; omega
          · go_wp2_with fail
            go_roundw
            case rel => exact ⟨need2, wt, _, _, HAT9.out, HPOP.out.close ⟨fun e => absurd (HOP.out.symm.trans e) (by decide), fun e => absurd e (by rw [HOP.out]; decide), fun e => absurd e (by rw [HOP.out]; decide)⟩, HOUT2.out, by omega, HBL9.out⟩
            case measure => rw [HAT9.out.meas, HMEAS.out]; omega
          · go_wp2_with fail
            go_roundw
            case rel => exact ⟨need2, wt, _, _, HAT9.out, HPOP.out.close ⟨fun e => absurd (HOP.out.symm.trans e) (by decide), fun e => absurd e (by rw [HOP.out]; decide), fun e => absurd e (by rw [HOP.out]; decide)⟩, HOUT2.out, by omega, HBL9.out⟩
            case measure => rw [HAT9.out.meas, HMEAS.out]; omega
          · obtain ⟨m1, rfl⟩ := Int.eq_ofNat_of_zero_le hn0
            have hm1 : m1 < need2.length := by rw [HPOP.out.len]; omega
            have hl1 := addW_meas need2 wt hm1
            have hinv1 := hid (HPOP.out.add (k := m1) (by omega) (by have h := Reach.reg HRY.out HOP.out; rw [HNODE.out] at h; exact h))
            have hmk1 := addW_marks need2 wt hm1
            have HMK1 := hid hmk1
            clear hmk1
            go_wp2_with (go_at_call 83; (with_reducible refine (add_any m1 hm1 hwl1 w9 HAT9.out).mono ?_); rintro e w10 ⟨rfl, hat10, hk10, hb10⟩; have HAT10 := hid hat10; have HBL10 := hid (HBL9.out.trans hb10); (have hbox10 := hk10 b8 _ _ HBOX9.out (by decide) (by decide) (by decide)); (have z2' := (cell_block hbox10 2).trans (List.getElem?_toArray.trans rfl)); clear hat10 hk10 hb10 hbox10)
            go_roundw
            case rel =>
              obtain ⟨av5, cv5, hat5⟩ := HAT10.out
              exact ⟨_, _, av5, cv5, hat5, hinv1.out.close ⟨fun _ => by rw [HNODE.out]; exact HMK1.out, fun e => absurd e (by rw [HOP.out]; decide), fun e => absurd e (by rw [HOP.out]; decide)⟩, fun j hj => addW_mono _ _ _ (HOUT2.out j hj), by omega, HBL10.out⟩
            case measure =>
              obtain ⟨av5, cv5, hat5⟩ := HAT10.out
              rw [hat5.meas, HMEAS.out]; omega
          · obtain ⟨m1, rfl⟩ := Int.eq_ofNat_of_zero_le hp0
            have hm1 : m1 < need2.length := by rw [HPOP.out.len]; omega
            have hl1 := addW_meas need2 wt hm1
            have hinv1 := hid (HPOP.out.add (k := m1) (by omega) (by have h := Reach.one HRY.out (by rw [HOP.out]; decide); rw [HNODE.out] at h; exact h))
            have hmk1 := addW_marks need2 wt hm1
            have HMK1 := hid hmk1
            clear hmk1
            go_wp2_with (go_at_call 83; (with_reducible refine (add_any m1 hm1 hwl1 w9 HAT9.out).mono ?_); rintro e w10 ⟨rfl, hat10, hk10, hb10⟩; have HAT10 := hid hat10; have HBL10 := hid (HBL9.out.trans hb10); (have hbox10 := hk10 b8 _ _ HBOX9.out (by decide) (by decide) (by decide)); (have z2' := (cell_block hbox10 2).trans (List.getElem?_toArray.trans rfl)); clear hat10 hk10 hb10 hbox10)
            go_roundw
            case rel =>
              obtain ⟨av5, cv5, hat5⟩ := HAT10.out
              exact ⟨_, _, av5, cv5, hat5, hinv1.out.close ⟨fun e => absurd (HOP.out.symm.trans e) (by decide), fun _ => by rw [HNODE.out]; exact HMK1.out, fun e => absurd e (by rw [HOP.out]; decide)⟩, fun j hj => addW_mono _ _ _ (HOUT2.out j hj), by omega, HBL10.out⟩
            case measure =>
              obtain ⟨av5, cv5, hat5⟩ := HAT10.out
              rw [hat5.meas, HMEAS.out]; omega
          · obtain ⟨m1, rfl⟩ := Int.eq_ofNat_of_zero_le hp0
            obtain ⟨m2, rfl⟩ := Int.eq_ofNat_of_zero_le hq0
            rcases ho with rfl | rfl | rfl
            · have hm1 : m1 < need2.length := by rw [HPOP.out.len]; omega
              have hl1 := addW_meas need2 wt hm1
              have hm2 : m2 < (addW need2 wt m1).1.length := by rw [addW_len, HPOP.out.len]; omega
              have hl2 := addW_meas (addW need2 wt m1).1 (addW need2 wt m1).2 hm2
              have hwl2 : (addW need2 wt m1).2.length ≤ 100000 := by have := wait_le_meas (addW need2 wt m1).1 (addW need2 wt m1).2; omega
              have hinv1 := HPOP.out.add (k := m1) (by omega) (by have h := Reach.one HRY.out (by rw [HOP.out]; decide); rw [HNODE.out] at h; exact h)
              have hinv2 := hid (hinv1.add (k := m2) (by omega) (by have h := Reach.two HRY.out (by rw [HOP.out]; decide); rw [HNODE.out] at h; exact h))
              have HMK1 := hid (addW_mono (addW need2 wt m1).1 (addW need2 wt m1).2 m2 (addW_marks need2 wt hm1))
              have HMK2 := hid (addW_marks (addW need2 wt m1).1 (addW need2 wt m1).2 hm2)
              clear hinv1
              go_wp2_with (first | (go_at_call 83; (with_reducible refine (add_any m2 hm2 hwl2 w10 (HAT10.out.choose_spec.choose_spec)).mono ?_); rintro e w11 ⟨rfl, hat11, hk11, hb11⟩; have HAT11 := hid hat11; have HBL11 := hid (HBL10.out.trans hb11); clear hat11 hk11 hb11) | (go_at_call 83; (with_reducible refine (add_any m1 hm1 hwl1 w9 HAT9.out).mono ?_); rintro e w10 ⟨rfl, hat10, hk10, hb10⟩; have HAT10 := hid hat10; have HBL10 := hid (HBL9.out.trans hb10); (have hbox10 := hk10 b8 _ _ HBOX9.out (by decide) (by decide) (by decide)); (have z2' := (cell_block hbox10 2).trans (List.getElem?_toArray.trans rfl)); clear hat10 hk10 hb10 hbox10) | fail)
              go_roundw
              case rel =>
                obtain ⟨av5, cv5, hat5⟩ := HAT11.out
                exact ⟨_, _, av5, cv5, hat5, hinv2.out.close ⟨fun e => absurd (HOP.out.symm.trans e) (by decide), fun _ => by rw [HNODE.out]; exact HMK1.out, fun _ => by rw [HNODE.out]; exact HMK2.out⟩, fun j hj => addW_mono _ _ _ (addW_mono _ _ _ (HOUT2.out j hj)), by omega, HBL11.out⟩
              case measure =>
                obtain ⟨av5, cv5, hat5⟩ := HAT11.out
                rw [hat5.meas, HMEAS.out]; omega
            · have hm1 : m1 < need2.length := by rw [HPOP.out.len]; omega
              have hl1 := addW_meas need2 wt hm1
              have hm2 : m2 < (addW need2 wt m1).1.length := by rw [addW_len, HPOP.out.len]; omega
              have hl2 := addW_meas (addW need2 wt m1).1 (addW need2 wt m1).2 hm2
              have hwl2 : (addW need2 wt m1).2.length ≤ 100000 := by have := wait_le_meas (addW need2 wt m1).1 (addW need2 wt m1).2; omega
              have hinv1 := HPOP.out.add (k := m1) (by omega) (by have h := Reach.one HRY.out (by rw [HOP.out]; decide); rw [HNODE.out] at h; exact h)
              have hinv2 := hid (hinv1.add (k := m2) (by omega) (by have h := Reach.two HRY.out (by rw [HOP.out]; decide); rw [HNODE.out] at h; exact h))
              have HMK1 := hid (addW_mono (addW need2 wt m1).1 (addW need2 wt m1).2 m2 (addW_marks need2 wt hm1))
              have HMK2 := hid (addW_marks (addW need2 wt m1).1 (addW need2 wt m1).2 hm2)
              clear hinv1
              go_wp2_with (first | (go_at_call 83; (with_reducible refine (add_any m2 hm2 hwl2 w10 (HAT10.out.choose_spec.choose_spec)).mono ?_); rintro e w11 ⟨rfl, hat11, hk11, hb11⟩; have HAT11 := hid hat11; have HBL11 := hid (HBL10.out.trans hb11); clear hat11 hk11 hb11) | (go_at_call 83; (with_reducible refine (add_any m1 hm1 hwl1 w9 HAT9.out).mono ?_); rintro e w10 ⟨rfl, hat10, hk10, hb10⟩; have HAT10 := hid hat10; have HBL10 := hid (HBL9.out.trans hb10); (have hbox10 := hk10 b8 _ _ HBOX9.out (by decide) (by decide) (by decide)); (have z2' := (cell_block hbox10 2).trans (List.getElem?_toArray.trans rfl)); clear hat10 hk10 hb10 hbox10) | fail)
              go_roundw
              case rel =>
                obtain ⟨av5, cv5, hat5⟩ := HAT11.out
                exact ⟨_, _, av5, cv5, hat5, hinv2.out.close ⟨fun e => absurd (HOP.out.symm.trans e) (by decide), fun _ => by rw [HNODE.out]; exact HMK1.out, fun _ => by rw [HNODE.out]; exact HMK2.out⟩, fun j hj => addW_mono _ _ _ (addW_mono _ _ _ (HOUT2.out j hj)), by omega, HBL11.out⟩
              case measure =>
                obtain ⟨av5, cv5, hat5⟩ := HAT11.out
                rw [hat5.meas, HMEAS.out]; omega
            · have hm1 : m1 < need2.length := by rw [HPOP.out.len]; omega
              have hl1 := addW_meas need2 wt hm1
              have hm2 : m2 < (addW need2 wt m1).1.length := by rw [addW_len, HPOP.out.len]; omega
              have hl2 := addW_meas (addW need2 wt m1).1 (addW need2 wt m1).2 hm2
              have hwl2 : (addW need2 wt m1).2.length ≤ 100000 := by have := wait_le_meas (addW need2 wt m1).1 (addW need2 wt m1).2; omega
              have hinv1 := HPOP.out.add (k := m1) (by omega) (by have h := Reach.one HRY.out (by rw [HOP.out]; decide); rw [HNODE.out] at h; exact h)
              have hinv2 := hid (hinv1.add (k := m2) (by omega) (by have h := Reach.two HRY.out (by rw [HOP.out]; decide); rw [HNODE.out] at h; exact h))
              have HMK1 := hid (addW_mono (addW need2 wt m1).1 (addW need2 wt m1).2 m2 (addW_marks need2 wt hm1))
              have HMK2 := hid (addW_marks (addW need2 wt m1).1 (addW need2 wt m1).2 hm2)
              clear hinv1
              go_wp2_with (first | (go_at_call 83; (with_reducible refine (add_any m2 hm2 hwl2 w10 (HAT10.out.choose_spec.choose_spec)).mono ?_); rintro e w11 ⟨rfl, hat11, hk11, hb11⟩; have HAT11 := hid hat11; have HBL11 := hid (HBL10.out.trans hb11); clear hat11 hk11 hb11) | (go_at_call 83; (with_reducible refine (add_any m1 hm1 hwl1 w9 HAT9.out).mono ?_); rintro e w10 ⟨rfl, hat10, hk10, hb10⟩; have HAT10 := hid hat10; have HBL10 := hid (HBL9.out.trans hb10); (have hbox10 := hk10 b8 _ _ HBOX9.out (by decide) (by decide) (by decide)); (have z2' := (cell_block hbox10 2).trans (List.getElem?_toArray.trans rfl)); clear hat10 hk10 hb10 hbox10) | fail)
              go_roundw
              case rel =>
                obtain ⟨av5, cv5, hat5⟩ := HAT11.out
                exact ⟨_, _, av5, cv5, hat5, hinv2.out.close ⟨fun e => absurd (HOP.out.symm.trans e) (by decide), fun _ => by rw [HNODE.out]; exact HMK1.out, fun _ => by rw [HNODE.out]; exact HMK2.out⟩, fun j hj => addW_mono _ _ _ (addW_mono _ _ _ (HOUT2.out j hj)), by omega, HBL11.out⟩
              case measure =>
                obtain ⟨av5, cv5, hat5⟩ := HAT11.out
                rw [hat5.meas, HMEAS.out]; omega
end Go.Proofs.Ytlaeflpddehipaa

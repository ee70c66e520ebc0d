/- clean.once, walked. -/
import Derived.Test.YtlaeflpddehipaaOnceMem2
import Derived.Test.YtlaeflpddehipaaEnds
set_option linter.unusedVariables false
namespace Go.Proofs.Ytlaeflpddehipaa
open Go.RowKit
attribute [local go_sem ↓] Go.wp_at_zero Go.wp_at_succ

theorem Try.make_map (u : World) : (Instr.makeMap 102 none).run Try.prog u = .ok (.map (some u.heap.size)) (u.alloc (.map #[] 0)) := by
  rfl
theorem row_stay {w w' : World} {r : Nat} {l : List Bool} (h : Row w r l) (hb : Below w.heap.size w w') : Row w' r l := h.keep (hb.block _ (boxLt h))
/-- So far: i nodes are made anew. -/
def OnceRel (N : Net) (need : List Bool) (B bm b bn bf bs br : Nat) (w : World) (v : Value) (wr : World) : Prop :=
  ∃ (i : Nat) (M : List GN) (of : List Int) (av : Option Addr) (cv : Nat), i ≤ N.nodes.length ∧ v = .int .i64 i ∧ stepsM N need i = (M, of) ∧ Mak B bm b bn bf bs N.given av cv M M of wr ∧ Row wr br need ∧ Below B w wr
theorem far_set {w : World} {b b' j j' : Nat} {u v : Value} (h : w.cell? ⟨b, j, none⟩ = some u) (hne : b ≠ b' ∨ j ≠ j') : (w.setCell ⟨b', j', none⟩ v).cell? ⟨b, j, none⟩ = some u :=
  (World.cell?_setCell_other w _ _ v (by intro e; cases e; rcases hne with h | h <;> exact h rfl)).trans h
theorem node_box {w : World} {b : Nat} {o p q n : Int} (h : w.heap[b]? = some (.cells #[.int .i64 o, .int .i64 p, .int .i64 q, .int .i64 n] 52 (0, 0))) : w.cell? ⟨b, 0, none⟩ = some (.int .i64 o) ∧ w.cell? ⟨b, 1, none⟩ = some (.int .i64 p) ∧ w.cell? ⟨b, 2, none⟩ = some (.int .i64 q) ∧ w.cell? ⟨b, 3, none⟩ = some (.int .i64 n) :=
  ⟨(cell_block h 0).trans rfl, (cell_block h 1).trans rfl, (cell_block h 2).trans rfl, (cell_block h 3).trans rfl⟩
theorem step_next {N : Net} {need : List Bool} {i : Nat} {M M' : List GN} {of of' : List Int} (h : stepsM N need i = (M, of)) (h' : stepM N need i (M, of) = (M', of')) : stepsM N need (i + 1) = (M', of') := by
  show stepM N need i (stepsM N need i) = _
  rw [h]; exact h'
theorem step_skip {N : Net} {need : List Bool} {i : Nat} {M : List GN} {of : List Int} (h : stepsM N need i = (M, of)) (hn : need.getD i false = false) : stepsM N need (i + 1) = (M, of) :=
  step_next h (by unfold stepM; rw [hn]; rfl)
theorem step_made {N : Net} {need : List Bool} {i : Nat} {M : List GN} {of : List Int} {r : List GN × Int} (h : stepsM N need i = (M, of)) (hn : need.getD i false = true) (hr : nodeM N i M of = r) : stepsM N need (i + 1) = (r.1, of.set i r.2) :=
  step_next h (by unfold stepM; rw [hn]; simp only [if_true]; rw [hr])
theorem once_close {N : Net} {need : List Bool} {B bm b bn bf bs br i : Nat} {w w5 w7 : World} {M : List GN} {of : List Int} {av : Option Addr} {cv : Nat} {r : List GN × Int} (hst : stepsM N need i = (M, of)) (hv : need.getD i false = true) (hr : nodeM N i M of = r) (hlt : i < N.nodes.length)
    (hm : Mak B bm b bn bf bs N.given av cv r.1 r.1 of w7) (hk : Keep w5 w7) (hb : Below B w5 w7) (hrow : Row w5 br need) (hbl : Below B w w5) : OnceRel N need B bm b bn bf bs br w (.int .i64 ((i : Int) + 1)) (w7.setCell ⟨bf, i, none⟩ (.int .i64 r.2)) := by
  refine ⟨i + 1, _, _, av, cv, hlt, by simp, step_made hst hv hr, hm.put i r.2, ?_, (hbl.trans hb).setCell hm.hbf _⟩
  have hrow7 := hk br _ _ hrow (by decide) (by decide)
  exact Row.keep (w := w7) hrow7 (heap_setCell_other _ _ _ _ (by exact boxNe hrow7 hm.ro (by decide)))
/-- So far: the nexts of j nodes are put. -/
def FixRel (N : Net) (M : List GN) (of : List Int) (B bm b bn bf bs : Nat) (av : Option Addr) (cv : Nat) (w : World) (v : Value) (wr : World) : Prop :=
  ∃ j : Nat, j ≤ M.length ∧ v = .int .i64 j ∧ Mak B bm b bn bf bs N.given av cv (fixTo of M j) M of wr ∧ Below B w wr
/-- So far: k outs are laid. -/
def LaidRel (N : Net) (M : List GN) (of : List Int) (bn : Nat) (av : Option Addr) (cv : Nat) (w3 : World) (v : Value) (wr : World) : Prop :=
  ∃ (k : Nat) (ao : Option Addr) (co : Nat), k ≤ N.outs.length ∧ v = .int .i64 k ∧ OutsAt bn N.given av (M.map (fixN of)).length cv ao co k ((N.outs.take k).map fun k => of.getD k.toNat 0) w3 wr
def LaidAt (N : Net) (M : List GN) (of : List Int) (bn : Nat) (av : Option Addr) (cv k : Nat) (w3 wr : World) : Prop :=
  ∃ (ao : Option Addr) (co : Nat), OutsAt bn N.given av (M.map (fixN of)).length cv ao co k ((N.outs.take k).map fun k => of.getD k.toNat 0) w3 wr
structure PushedOut (N : Net) (M : List GN) (of : List Int) (bm bn bf y : Nat) (z : Int) (av : Option Addr) (cv k : Nat) (ao : Option Addr) (co : Nat) (w3 wb : World) (u : Value) : Prop where
  cm : wb.cell? ⟨bm, 1, none⟩ = some (.pointer (some ⟨bn, 0, none⟩))
  c2 : wb.cell? ⟨bn, 2, none⟩ = some (.slice ao k co)
  fb : ∀ j, wb.frozen? ⟨bn, j, none⟩ = false
  lb : bn < wb.heap.size
  lm : bm < wb.heap.size
  cf : wb.cell? ⟨bm, 2, none⟩ = some (.slice (some ⟨bf, 0, none⟩) of.length of.length)
  cy : wb.cell? ⟨bf, y, none⟩ = some (.int .i64 z)
  rel : LaidAt N M of bn av cv (k + 1) w3 (wb.setCell ⟨bn, 2, none⟩ u)
theorem laid_push {N : Net} {B bm bo bn bf bs y : Nat} {M S : List GN} {of : List Int} {av : Option Addr} {cv : Nat} {ao ao' : Option Addr} {co co' k : Nat} {z : Int} {w3 W W1 wb : World} (h : OutsAt bn N.given av (M.map (fixN of)).length cv ao co k ((N.outs.take k).map fun k => of.getD k.toNat 0) w3 W) (hm : Mak B bm bo bn bf bs N.given av cv (M.map (fixN of)) S of w3) (hk : k < N.outs.length) (hy : N.outs.getD k 0 = (y : Int)) (hz : of.getD y 0 = z) (hyl : y < of.length)
    (hb : Below W.heap.size W W1) (hg : W1.grownBy wb (Value.slice ao k co).ownBlock) (hown : wb.ownsRow w3.heap.size 3 1 (.slice ao' (k + 1) co') (k + 1) (((N.outs.take k).map fun k => of.getD k.toNat 0).map (.int .i64) ++ [.int .i64 z])) :
    PushedOut N M of bm bn bf y z av cv k ao co w3 wb (.slice ao' (k + 1) co') := by
  obtain ⟨h1, h2, h3, h4⟩ := h.push (boxLt hm.boxn) hb hg hown
  have hbm := h2 bm _ hm.boxm (boxNe hm.boxm hm.boxn (by decide))
  have hr := hm.ro
  unfold RowI at hr
  have hbr := h2 bf _ hr (boxNe hr hm.boxn (by decide))
  have cy := RowI.cell (w := wb) (r := bf) (l := of) hbr y hyl
  rw [hz] at cy
  refine ⟨(cell_block hbm 1).trans rfl, (cell_block h3 2).trans rfl, free_block h3, boxLt h3, boxLt hbm, (cell_block hbm 2).trans rfl, cy, ao', co', ?_⟩
  have e : (N.outs.take (k + 1)).map (fun k => of.getD k.toNat 0) = ((N.outs.take k).map fun k => of.getD k.toNat 0) ++ [z] := by
    have e0 : N.outs.getD k 0 = N.outs[k] := by simp [List.getD_eq_getElem?_getD, hk]
    rw [List.take_succ_eq_append_getElem hk, List.map_append, ← e0, hy]
    show _ ++ [of.getD ((y : Nat) : Int).toNat 0] = _
    rw [Int.toNat_natCast, hz]
  rw [e]
  exact h4
set_option maxRecDepth 100000 in
set_option maxHeartbeats 12800000 in
theorem once_any (B b : Nat) (a : Option Addr) (c : Nat) (a' : Option Addr) (c' : Nat) (N : Net) (w : World) (h : NetIn B w b a c a' c' N) (hr : N.right = true) (hB : B ≤ w.heap.size) :
    Calls Try.prog 68 #[.pointer (some ⟨b, 0, none⟩)] w fun e w' => ∃ bn need ad cd ao co, e = .returned (.pointer (some ⟨bn, 0, none⟩)) ∧ IsNeed N need ∧ NetIn w'.heap.size w' bn ad cd ao co (onceN N need) ∧ Below w.heap.size w w' := by
  obtain ⟨hg0, hg1, hn20, ho20⟩ := Net.right_sizes hr
  have hmk := Try.make_intsN N.nodes.length (by omega)
  have hmap := Try.make_map
  obtain ⟨i0, hi, hz0, hz1, hz2⟩ := info_parts Try.infoIntN
  have hng := h.g
  have n1 := h.nodes
  have n2 := h.outs
  have hltb := Nat.lt_of_lt_of_le h.hb hB
  have HN := hid h
  have HR := hid hr
  clear h hr
  go_enter Try.func68, Try.ntmps68
  go_upto_region 1 with fail
  go_cut [3] (fun s3 wx => ∃ bm bn bf bs, s3 = .pointer (some ⟨bm, 0, none⟩) ∧ Mak w.heap.size bm b bn bf bs N.given none 0 [] [] (List.replicate N.nodes.length 0) wx ∧ Below w.heap.size w wx)
  case first =>
    --[stub
    go_region
    all_goals
      go_wp2_with fail
      go_meet
      first | with_reducible exact ⟨_, _, _, _, rfl, Mak.start (alloc4 w _ _ _ _).2.2.2.2.2 (alloc4 w _ _ _ _).2.2.2.1 (alloc4 w _ _ _ _).1 (alloc4 w _ _ _ _).2.1 (alloc4 w _ _ _ _).2.2.1 (by omega) (by omega) (by omega) (by omega), (alloc4 w _ _ _ _).2.2.2.2.1⟩ | with_reducible exact ⟨_, _, _, _, rfl, Mak.start (alloc4 w _ _ _ _).2.2.2.2.2 (alloc4 w _ _ _ _).2.2.2.1 (alloc4 w _ _ _ _).1 (alloc4 w _ _ _ _).2.2.1 (alloc4 w _ _ _ _).2.1 (by omega) (by omega) (by omega) (by omega), (alloc4 w _ _ _ _).2.2.2.2.1⟩ | with_reducible exact ⟨_, _, _, _, rfl, Mak.start (alloc4 w _ _ _ _).2.2.2.2.2 (alloc4 w _ _ _ _).2.2.2.1 (alloc4 w _ _ _ _).2.1 (alloc4 w _ _ _ _).1 (alloc4 w _ _ _ _).2.2.1 (by omega) (by omega) (by omega) (by omega), (alloc4 w _ _ _ _).2.2.2.2.1⟩ | with_reducible exact ⟨_, _, _, _, rfl, Mak.start (alloc4 w _ _ _ _).2.2.2.2.2 (alloc4 w _ _ _ _).2.2.2.1 (alloc4 w _ _ _ _).2.1 (alloc4 w _ _ _ _).2.2.1 (alloc4 w _ _ _ _).1 (by omega) (by omega) (by omega) (by omega), (alloc4 w _ _ _ _).2.2.2.2.1⟩ | with_reducible exact ⟨_, _, _, _, rfl, Mak.start (alloc4 w _ _ _ _).2.2.2.2.2 (alloc4 w _ _ _ _).2.2.2.1 (alloc4 w _ _ _ _).2.2.1 (alloc4 w _ _ _ _).1 (alloc4 w _ _ _ _).2.1 (by omega) (by omega) (by omega) (by omega), (alloc4 w _ _ _ _).2.2.2.2.1⟩ | with_reducible exact ⟨_, _, _, _, rfl, Mak.start (alloc4 w _ _ _ _).2.2.2.2.2 (alloc4 w _ _ _ _).2.2.2.1 (alloc4 w _ _ _ _).2.2.1 (alloc4 w _ _ _ _).2.1 (alloc4 w _ _ _ _).1 (by omega) (by omega) (by omega) (by omega), (alloc4 w _ _ _ _).2.2.2.2.1⟩ | fail
    --stub]
  case rest =>
  obtain ⟨bm, bn, bf, bs, rfl, hm, hbl⟩ := hcut
  have HM := hid hm
  have HBL := hid hbl
  have HNC := hid (HN.out.stay (hbl.mono hB))
  have hBc := hbl.size
  clear hm hbl hmk hmap hng n1 n2
  go_upto_region 3 with (go_at_call 75; (with_reducible refine (needed_any B b a c a' c' N wc HNC.out HR.out (Nat.le_trans hB hBc)).mono ?_); rintro e w1 ⟨br, need, rfl, hlen, hd, hrow, hbr, hb1⟩; have HD := hid hd; have HROW := hid hrow; have HM1 := hid (HM.out.stay hb1); have HB1 := hid (HBL.out.trans (hb1.mono hBc)); have HLEN := hid hlen; have HBR := hid hbr; clear hlen hd hrow hbr hb1)
  have HN1 := hid (HN.out.stay (HB1.out.mono hB))
  have n1 := HN1.out.nodes
  have hltb1 := Nat.lt_of_lt_of_le hltb HB1.out.size
  clear HM HBL HNC
  go_wp2_with fail
  go_loopw [34] (fun v wr => OnceRel N need w.heap.size bm b bn bf bs br w v wr) (fun v _ => N.nodes.length - (intOf v).toNat)
  case atStart => exact ⟨0, [], _, none, 0, Nat.zero_le _, rfl, rfl, HM1.out, HROW.out, HB1.out⟩
  case round =>
    obtain ⟨i, M, of, av, cv, hle, rfl, hst, hm, hrow, hbl⟩ := hrel
    have hinv := inv_all HR.out HD.out i hle
    rw [hst] at hinv
    have HST := hid hst
    have HMK := hid hm
    have HROWK := hid hrow
    have HBLK := hid hbl
    have HINV := hid hinv
    clear hst hm hrow hbl hinv HM1 HB1 HROW n1 hltb1
    by_cases hlt : i < N.nodes.length
    · have HNW := HN.out.stay (HBLK.out.mono hB)
      obtain ⟨b1, off, rfl, hb1, d0, d1, d2, d3⟩ := HNW.node i hlt
      have hb1w := Nat.lt_of_lt_of_le (Nat.lt_of_lt_of_le hb1 hB) HMK.out.hB
      have hltI : ((i : Nat) : Int) < (N.nodes.length : Int) := by omega
      have hneedlt : i < need.length := by rw [HLEN.out]; exact hlt
      have cneed := HROWK.out.cell i hneedlt
      have hbrlt := boxLt HROWK.out
      have hk := node_all (Net.right_at HR.out hlt)
      obtain ⟨x, hx⟩ : ∃ x, N.nodes.getD i GN.zero = x := ⟨_, rfl⟩
      have hnode : nodeAt N.nodes i = x := by unfold nodeAt; rw [Int.toNat_natCast]; exact hx
      rw [hx] at d0 d1 d2 d3 hk
      obtain ⟨o, p, q, n⟩ := x
      simp only at d0 d1 d2 d3 hk
      have HK := hid hk
      have HNODE := hid hnode
      clear hk hx hnode HNW
      cases hv : need.getD i false
      · rw [hv] at cneed
        have HV := hid hv
        clear hv
        go_wp2_with fail
        go_roundw
        case rel => exact ⟨i + 1, M, of, av, cv, hlt, by go_num, step_skip HST.out HV.out, HMK.out.stay (mk_alloc _ _), row_stay HROWK.out (mk_alloc _ _), HBLK.out.trans ((mk_alloc _ _).mono HMK.out.hB)⟩
        case measure => simp [intOf]; omega
      · rw [hv] at cneed
        have HV := hid hv
        clear hv
        go_upto_region 7 with fail
        obtain ⟨b6, hb6⟩ : ∃ z, wr.heap.size = z := ⟨_, rfl⟩
        rw [hb6]
        have hbelA := mk_alloc wr (.cells #[.int .i64 o, .int .i64 p, .int .i64 q, .int .i64 n] 52)
        have hm5 := HMK.out.stay hbelA
        have hrow5 := row_stay HROWK.out hbelA
        have hbox5 := box_at wr (.cells #[.int .i64 o, .int .i64 p, .int .i64 q, .int .i64 n] 52)
        rw [hb6] at hbox5
        have hbl5 := HBLK.out.trans (hbelA.mono HMK.out.hB)
        generalize wr.alloc (.cells #[.int .i64 o, .int .i64 p, .int .i64 q, .int .i64 n] 52) = w5 at *
        obtain ⟨z0, z1, z2, z3⟩ := node_box hbox5
        have c2 := hm5.c2
        have hbmlt := boxLt hm5.boxm
        have hb6lt := boxLt hbox5
        have HBX5 := hid hbox5
        have hn61 : b6 ≠ bn := by have := boxLt HMK.out.boxn; omega
        have hn62 : b6 ≠ bs := by have := HMK.out.mp.lt; omega
        have hn63 : (Value.slice av M.length cv).ownBlock ≠ some b6 := fun e => by have := (HMK.out.rn.lt _ e).2; omega
        have hn64 : b6 ≠ bf := by have := boxLt HMK.out.ro; omega
        have holen := HINV.out.olen
        simp only at holen
        have hioI : ((i : Nat) : Int) < (of.length : Int) := by omega
        have hML : M.length ≤ 100000 := by have := HINV.out.len; simp only at this; omega
        have HM5 := hid hm5
        have HROW5 := hid hrow5
        have HBL5 := hid hbl5
        clear hm5 hrow5 hbl5 hbox5 hbelA d0 d1 d2 d3 cneed hbrlt hb1w
        rcases HK.out with (rfl | rfl) | ⟨rfl, ha0, ha1⟩ | ⟨rfl, hr01, hn0, hn1⟩ | ⟨rfl, hp0, hp1⟩ | ⟨ho, hp0, hp1, hq0, hq1⟩
        --LEAVES
        --[stub
        · as_aux_lemma =>
            have ENM : nodeM N i M of = mkN M zeroN := by
              unfold nodeM; rw [HNODE.out]; rfl
            have HENM := hid ENM
            clear ENM
            go_upto_region 10 with fail
            go_region_held3 (fun w' => w'.cell? ⟨bm, 2, none⟩ = some (.slice (some ⟨bf, 0, none⟩) of.length of.length))
              (first | exact c2 | exact c27 | exact far_set c27 (.inl hne7))
              (first | (go_at_call 76; (with_reducible refine (zero_any w5.drew HM5.out.drew hML).mono ?_); rintro e w7 ⟨rfl, ⟨av7, cv7, hm7⟩, hk7, hb7⟩; have c27 := hm7.c2; have cf7 := hm7.ro.cell i (by omega); have ff7 := free_block hm7.ro; have lf7 := boxLt hm7.ro; have lm7 := boxLt hm7.boxm; have hne7 := boxNe hm7.boxm hm7.ro (by decide); have HM7 := hid hm7; have HK7 := hid hk7; have HB7 := hid hb7; clear hm7 hk7 hb7) | fail)
            all_goals
              go_wp2_with fail
              go_roundw
              case rel => exact once_close (w5 := w5.drew) HST.out HV.out HENM.out hlt HM7.out HK7.out.1 HB7.out HROW5.out HBL5.out.drew
              case measure => simp [intOf]; omega
        --stub]
        --[stub
        · as_aux_lemma =>
            have ENM : nodeM N i M of = mkN M oneN := by
              unfold nodeM; rw [HNODE.out]; rfl
            have HENM := hid ENM
            clear ENM
            go_upto_region 12 with fail
            go_region_held3 (fun w' => w'.cell? ⟨bm, 2, none⟩ = some (.slice (some ⟨bf, 0, none⟩) of.length of.length))
              (first | exact c2 | exact c27 | exact far_set c27 (.inl hne7))
              (first | (go_at_call 77; (with_reducible refine (one_any w5.drew HM5.out.drew hML).mono ?_); rintro e w7 ⟨rfl, ⟨av7, cv7, hm7⟩, hk7, hb7⟩; have c27 := hm7.c2; have cf7 := hm7.ro.cell i (by omega); have ff7 := free_block hm7.ro; have lf7 := boxLt hm7.ro; have lm7 := boxLt hm7.boxm; have hne7 := boxNe hm7.boxm hm7.ro (by decide); have HM7 := hid hm7; have HK7 := hid hk7; have HB7 := hid hb7; clear hm7 hk7 hb7) | fail)
            all_goals
              go_wp2_with fail
              go_roundw
              case rel => exact once_close (w5 := w5.drew) HST.out HV.out HENM.out hlt HM7.out HK7.out.1 HB7.out HROW5.out HBL5.out.drew
              case measure => simp [intOf]; omega
        --stub]
        --[stub
        · as_aux_lemma =>
            have HLOW : Hid (GN.low ⟨3, p, 0, 0⟩) := low_mk (by decide) (by omega) (by decide) (by decide)
            have ENM : nodeM N i M of = mkN M ⟨3, p, 0, 0⟩ := by
              unfold nodeM; rw [HNODE.out]; rfl
            have HENM := hid ENM
            clear ENM
            go_upto_region 14 with fail
            go_region_held3 (fun w' => w'.cell? ⟨bm, 2, none⟩ = some (.slice (some ⟨bf, 0, none⟩) of.length of.length) ∧ w'.cell? ⟨b6, 1, none⟩ = some (.int .i64 p))
              (first | exact ⟨c2, z1⟩ | exact ⟨c27, x1⟩ | exact ⟨far_set c27 (.inl hne7), far_set x1 (.inl hn64)⟩)
              (first | (go_at_call 78; (with_reducible refine (node_at 3 p 0 0 w5.drew HM5.out.drew HLOW.out hML).mono ?_); rintro e w7 ⟨rfl, ⟨av7, cv7, hm7⟩, hk7, hb7⟩; have c27 := hm7.c2; have cf7 := hm7.ro.cell i (by omega); have ff7 := free_block hm7.ro; have lf7 := boxLt hm7.ro; have lm7 := boxLt hm7.boxm; have hne7 := boxNe hm7.boxm hm7.ro (by decide); have hz7 := node_box (hk7.2 b6 _ HBX5.out hn61 hn62 hn63); have x1 := hz7.2.1; clear hz7; have HM7 := hid hm7; have HK7 := hid hk7; have HB7 := hid hb7; clear hm7 hk7 hb7) | fail)
            all_goals
              go_wp2_with fail
              go_roundw
              case rel => exact once_close (w5 := w5.drew) HST.out HV.out HENM.out hlt HM7.out HK7.out.1 HB7.out HROW5.out HBL5.out.drew
              case measure => simp [intOf]; omega
        --stub]
        --[stub
        · as_aux_lemma =>
            obtain ⟨nn, rfl⟩ := Int.eq_ofNat_of_zero_le hn0
            have hgd : N.nodes.getD i GN.zero = ⟨4, p, q, nn⟩ := by
              have h := HNODE.out
              unfold nodeAt at h
              rwa [Int.toNat_natCast] at h
            have hnext : 0 ≤ (N.nodes.getD i GN.zero).next ∧ (N.nodes.getD i GN.zero).next < (N.nodes.length : Int) := by rw [hgd]; exact ⟨hn0, hn1⟩
            have HNI5 := hid (HN.out.stay (HBL5.out.mono hB))
            have hB5 := Nat.le_trans hB HM5.out.hB
            have HNEXT := hid hnext
            clear hnext hgd
            cases hsb : stillB N i
            · have HSB := hid hsb
              have HLOW : Hid (GN.low ⟨4, p, 0, nn⟩) := low_mk (by decide) (by omega) (by decide) (by omega)
              clear hsb
              have ENM : nodeM N i M of = mkN M ⟨4, p, 0, nn⟩ := by
                unfold nodeM; rw [HNODE.out]; simp only; rw [HSB.out]; rfl
              have HENM := hid ENM
              clear ENM
              go_upto_region 18 with (go_at_call 79; (with_reducible refine (still_any B b _ c a' c' N w5 HNI5.out hB5 i hlt HNEXT.out).mono ?_); rintro e w6 ⟨rfl, hbs⟩; rw [HSB.out]; have HM6 := hid (HM5.out.stay hbs); have HROW6 := hid (row_stay HROW5.out hbs); have HBL6 := hid (HBL5.out.trans (hbs.mono HM5.out.hB)); (have y1 := (hbs.cell (p := ⟨b6, 1, none⟩) hb6lt).trans z1); (have y3 := (hbs.cell (p := ⟨b6, 3, none⟩) hb6lt).trans z3); have HBX6 := hid ((hbs.block b6 hb6lt).trans HBX5.out); have c26 := HM6.out.c2; have hbm6 := boxLt HM6.out.boxm; have hb66 := Nat.lt_of_lt_of_le hb6lt hbs.size; clear hbs)
              go_region_held3 (fun w' => w'.cell? ⟨bm, 2, none⟩ = some (.slice (some ⟨bf, 0, none⟩) of.length of.length) ∧ w'.cell? ⟨b6, 1, none⟩ = some (.int .i64 p) ∧ w'.cell? ⟨b6, 3, none⟩ = some (.int .i64 ((nn : Nat) : Int)))
                (first | exact ⟨c26, y1, y3⟩ | exact ⟨c27, x1, x3⟩ | exact ⟨far_set c27 (.inl hne7), far_set x1 (.inl hn64), far_set x3 (.inl hn64)⟩)
                (first | (go_at_call 78; (with_reducible refine (node_at 4 p 0 nn w6.drew HM6.out.drew HLOW.out hML).mono ?_); rintro e w7 ⟨rfl, ⟨av7, cv7, hm7⟩, hk7, hb7⟩; have c27 := hm7.c2; have cf7 := hm7.ro.cell i (by omega); have ff7 := free_block hm7.ro; have lf7 := boxLt hm7.ro; have lm7 := boxLt hm7.boxm; have hne7 := boxNe hm7.boxm hm7.ro (by decide); have hz7 := node_box (hk7.2 b6 _ HBX6.out hn61 hn62 hn63); have x1 := hz7.2.1; have x3 := hz7.2.2.2; clear hz7; have HM7 := hid hm7; have HK7 := hid hk7; have HB7 := hid hb7; clear hm7 hk7 hb7) | fail)
              all_goals
                go_wp2_with fail
                go_roundw
                case rel => exact once_close (w5 := w6.drew) HST.out HV.out HENM.out hlt HM7.out HK7.out.1 HB7.out HROW6.out HBL6.out.drew
                case measure => simp [intOf]; omega
            · have HSB := hid hsb
              clear hsb
              by_cases hp1 : p = 1
              · subst hp1
                have ENM : nodeM N i M of = mkN M oneN := by
                  unfold nodeM; rw [HNODE.out]; simp only; rw [HSB.out]; rfl
                have HENM := hid ENM
                clear ENM
                go_upto_region 20 with (go_at_call 79; (with_reducible refine (still_any B b _ c a' c' N w5 HNI5.out hB5 i hlt HNEXT.out).mono ?_); rintro e w6 ⟨rfl, hbs⟩; rw [HSB.out]; have HM6 := hid (HM5.out.stay hbs); have HROW6 := hid (row_stay HROW5.out hbs); have HBL6 := hid (HBL5.out.trans (hbs.mono HM5.out.hB)); (have y1 := (hbs.cell (p := ⟨b6, 1, none⟩) hb6lt).trans z1); (have y3 := (hbs.cell (p := ⟨b6, 3, none⟩) hb6lt).trans z3); have HBX6 := hid ((hbs.block b6 hb6lt).trans HBX5.out); have c26 := HM6.out.c2; have hbm6 := boxLt HM6.out.boxm; have hb66 := Nat.lt_of_lt_of_le hb6lt hbs.size; clear hbs)
                go_region_held3 (fun w' => w'.cell? ⟨bm, 2, none⟩ = some (.slice (some ⟨bf, 0, none⟩) of.length of.length))
                  (first | exact c26 | exact c27 | exact far_set c27 (.inl hne7))
                  (first | (go_at_call 77; (with_reducible refine (one_any w6.drew HM6.out.drew hML).mono ?_); rintro e w7 ⟨rfl, ⟨av7, cv7, hm7⟩, hk7, hb7⟩; have c27 := hm7.c2; have cf7 := hm7.ro.cell i (by omega); have ff7 := free_block hm7.ro; have lf7 := boxLt hm7.ro; have lm7 := boxLt hm7.boxm; have hne7 := boxNe hm7.boxm hm7.ro (by decide); have HM7 := hid hm7; have HK7 := hid hk7; have HB7 := hid hb7; clear hm7 hk7 hb7) | fail)
                all_goals
                  go_wp2_with fail
                  go_roundw
                  case rel => exact once_close (w5 := w6.drew) HST.out HV.out HENM.out hlt HM7.out HK7.out.1 HB7.out HROW6.out HBL6.out.drew
                  case measure => simp [intOf]; omega
              · have f1 : (p == (1 : Int)) = false := beq_eq_false_iff_ne.2 hp1
                have HP1 := hid hp1
                have ENM : nodeM N i M of = mkN M zeroN := by
                  unfold nodeM; rw [HNODE.out]; simp only; rw [HSB.out, if_neg (by decide), if_neg (by decide), if_neg (by decide), if_pos trivial, if_neg (by decide), if_neg HP1.out]
                have HENM := hid ENM
                clear ENM
                go_upto_region 16 with (go_at_call 79; (with_reducible refine (still_any B b _ c a' c' N w5 HNI5.out hB5 i hlt HNEXT.out).mono ?_); rintro e w6 ⟨rfl, hbs⟩; rw [HSB.out]; have HM6 := hid (HM5.out.stay hbs); have HROW6 := hid (row_stay HROW5.out hbs); have HBL6 := hid (HBL5.out.trans (hbs.mono HM5.out.hB)); (have y1 := (hbs.cell (p := ⟨b6, 1, none⟩) hb6lt).trans z1); (have y3 := (hbs.cell (p := ⟨b6, 3, none⟩) hb6lt).trans z3); have HBX6 := hid ((hbs.block b6 hb6lt).trans HBX5.out); have c26 := HM6.out.c2; have hbm6 := boxLt HM6.out.boxm; have hb66 := Nat.lt_of_lt_of_le hb6lt hbs.size; clear hbs)
                go_region_held3 (fun w' => w'.cell? ⟨bm, 2, none⟩ = some (.slice (some ⟨bf, 0, none⟩) of.length of.length))
                  (first | exact c26 | exact c27 | exact far_set c27 (.inl hne7))
                  (first | (go_at_call 76; (with_reducible refine (zero_any w6.drew HM6.out.drew hML).mono ?_); rintro e w7 ⟨rfl, ⟨av7, cv7, hm7⟩, hk7, hb7⟩; have c27 := hm7.c2; have cf7 := hm7.ro.cell i (by omega); have ff7 := free_block hm7.ro; have lf7 := boxLt hm7.ro; have lm7 := boxLt hm7.boxm; have hne7 := boxNe hm7.boxm hm7.ro (by decide); have HM7 := hid hm7; have HK7 := hid hk7; have HB7 := hid hb7; clear hm7 hk7 hb7) | fail)
                all_goals
                  go_wp2_with fail
                  go_roundw
                  case rel => exact once_close (w5 := w6.drew) HST.out HV.out HENM.out hlt HM7.out HK7.out.1 HB7.out HROW6.out HBL6.out.drew
                  case measure => simp [intOf]; omega
        --stub]
        --[stub
        · as_aux_lemma =>
            obtain ⟨pn, rfl⟩ := Int.eq_ofNat_of_zero_le hp0
            have hnp : need.getD pn false = true := by
              have h := (need_closed HR.out HD.out hlt HV.out).2.1 (by unfold opAt; rw [HNODE.out]; simp only; omega)
              rw [HNODE.out] at h
              exact h
            have hqp := HINV.out.of pn (by omega) hnp
            simp only at hqp
            obtain ⟨mp, hmp⟩ : ∃ m : Nat, of.getD pn 0 = (m : Int) := ⟨_, (Int.toNat_of_nonneg hqp.1).symm⟩
            rw [hmp] at hqp
            have hmpl : mp < M.length := by omega
            have hpp : pn < of.length := by omega
            have hppi : pn ≠ i := by omega
            have hppN : pn < N.nodes.length := by omega
            have hppNI : ((pn : Nat) : Int) < (N.nodes.length : Int) := by omega
            have hppI : ((pn : Nat) : Int) < (of.length : Int) := by omega
            have cfp := HM5.out.ro.cell pn hpp
            rw [hmp] at cfp
            have HMp := hid hmp
            clear hmp
            have hbf5 := boxLt HM5.out.ro
            have ENM : nodeM N i M of = mNot M mp := by
              have e : of.getD ((pn : Int)).toNat 0 = (mp : Int) := by rw [Int.toNat_natCast]; exact HMp.out
              unfold nodeM; rw [HNODE.out]; simp only; rw [e]; rfl
            have HENM := hid ENM
            clear ENM
            go_upto_region 22 with fail
            go_region_held3 (fun w' => w'.cell? ⟨bm, 2, none⟩ = some (.slice (some ⟨bf, 0, none⟩) of.length of.length) ∧ w'.cell? ⟨b6, 1, none⟩ = some (.int .i64 ((pn : Nat) : Int)) ∧ w'.cell? ⟨bf, pn, none⟩ = some (.int .i64 ((mp : Nat) : Int)))
              (first | exact ⟨c2, z1, cfp⟩ | exact ⟨c27, x1, cfp7⟩ | exact ⟨far_set c27 (.inl hne7), far_set x1 (.inl hn64), far_set cfp7 (.inr hppi)⟩)
              (first | (go_at_call 80; (with_reducible refine (not_any mp hmpl w5.drew HM5.out.drew hML).mono ?_); rintro e w7 ⟨rfl, ⟨av7, cv7, hm7⟩, hk7, hb7⟩; have c27 := hm7.c2; have cf7 := hm7.ro.cell i (by omega); have ff7 := free_block hm7.ro; have lf7 := boxLt hm7.ro; have lm7 := boxLt hm7.boxm; have hne7 := boxNe hm7.boxm hm7.ro (by decide); have hz7 := node_box (hk7.2 b6 _ HBX5.out hn61 hn62 hn63); have x1 := hz7.2.1; clear hz7; have cfp7 := hm7.ro.cell pn hpp; rw [HMp.out] at cfp7; have HM7 := hid hm7; have HK7 := hid hk7; have HB7 := hid hb7; clear hm7 hk7 hb7) | fail)
            all_goals
              go_wp2_with fail
              go_roundw
              case rel => exact once_close (w5 := w5.drew) HST.out HV.out HENM.out hlt HM7.out HK7.out.1 HB7.out HROW5.out HBL5.out.drew
              case measure => simp [intOf]; omega
        --stub]
        --[stub
        · as_aux_lemma =>
            obtain ⟨pn, rfl⟩ := Int.eq_ofNat_of_zero_le hp0
            have hnp : need.getD pn false = true := by
              have h := (need_closed HR.out HD.out hlt HV.out).2.1 (by unfold opAt; rw [HNODE.out]; rcases ho with h | h | h <;> (simp only; omega))
              rw [HNODE.out] at h
              exact h
            have hqp := HINV.out.of pn (by omega) hnp
            simp only at hqp
            obtain ⟨mp, hmp⟩ : ∃ m : Nat, of.getD pn 0 = (m : Int) := ⟨_, (Int.toNat_of_nonneg hqp.1).symm⟩
            rw [hmp] at hqp
            have hmpl : mp < M.length := by omega
            have hpp : pn < of.length := by omega
            have hppi : pn ≠ i := by omega
            have hppN : pn < N.nodes.length := by omega
            have hppNI : ((pn : Nat) : Int) < (N.nodes.length : Int) := by omega
            have hppI : ((pn : Nat) : Int) < (of.length : Int) := by omega
            have cfp := HM5.out.ro.cell pn hpp
            rw [hmp] at cfp
            have HMp := hid hmp
            clear hmp
            obtain ⟨qn, rfl⟩ := Int.eq_ofNat_of_zero_le hq0
            have hnq : need.getD qn false = true := by
              have h := (need_closed HR.out HD.out hlt HV.out).2.2 (by unfold opAt; rw [HNODE.out]; rcases ho with h | h | h <;> (simp only; omega))
              rw [HNODE.out] at h
              exact h
            have hqq := HINV.out.of qn (by omega) hnq
            simp only at hqq
            obtain ⟨mq, hmq⟩ : ∃ m : Nat, of.getD qn 0 = (m : Int) := ⟨_, (Int.toNat_of_nonneg hqq.1).symm⟩
            rw [hmq] at hqq
            have hmql : mq < M.length := by omega
            have hpq : qn < of.length := by omega
            have hpqi : qn ≠ i := by omega
            have hpqN : qn < N.nodes.length := by omega
            have hpqNI : ((qn : Nat) : Int) < (N.nodes.length : Int) := by omega
            have hpqI : ((qn : Nat) : Int) < (of.length : Int) := by omega
            have cfq := HM5.out.ro.cell qn hpq
            rw [hmq] at cfq
            have HMq := hid hmq
            clear hmq
            have hbf5 := boxLt HM5.out.ro
            have f1 : (o == (1 : Int)) = false := beq_eq_false_iff_ne.2 (by omega)
            have f2 : (o == (2 : Int)) = false := beq_eq_false_iff_ne.2 (by omega)
            have f3 : (o == (3 : Int)) = false := beq_eq_false_iff_ne.2 (by omega)
            have f4 : (o == (4 : Int)) = false := beq_eq_false_iff_ne.2 (by omega)
            have f8 : (o == (8 : Int)) = false := beq_eq_false_iff_ne.2 (by omega)
            have HO := hid ho
            clear ho
            have ENM : nodeM N i M of = mTwo M o mp mq := by
              have e : of.getD ((pn : Int)).toNat 0 = (mp : Int) := by rw [Int.toNat_natCast]; exact HMp.out
              have e2 : of.getD ((qn : Int)).toNat 0 = (mq : Int) := by rw [Int.toNat_natCast]; exact HMq.out
              unfold nodeM; rw [HNODE.out]; simp only; rw [e, e2]; rcases HO.out with rfl | rfl | rfl <;> rfl
            have HENM := hid ENM
            clear ENM
            go_upto_region 8 with fail
            go_region_held3 (fun w' => w'.cell? ⟨bm, 2, none⟩ = some (.slice (some ⟨bf, 0, none⟩) of.length of.length) ∧ w'.cell? ⟨b6, 0, none⟩ = some (.int .i64 o) ∧ w'.cell? ⟨b6, 1, none⟩ = some (.int .i64 ((pn : Nat) : Int)) ∧ w'.cell? ⟨b6, 2, none⟩ = some (.int .i64 ((qn : Nat) : Int)) ∧ w'.cell? ⟨bf, pn, none⟩ = some (.int .i64 ((mp : Nat) : Int)) ∧ w'.cell? ⟨bf, qn, none⟩ = some (.int .i64 ((mq : Nat) : Int)))
              (first | exact ⟨c2, z0, z1, z2, cfp, cfq⟩ | exact ⟨c27, x0, x1, x2, cfp7, cfq7⟩ | exact ⟨far_set c27 (.inl hne7), far_set x0 (.inl hn64), far_set x1 (.inl hn64), far_set x2 (.inl hn64), far_set cfp7 (.inr hppi), far_set cfq7 (.inr hpqi)⟩)
              (first | (go_at_call 81; (with_reducible refine (two_any o mp mq HO.out hmpl hmql w5.drew HM5.out.drew hML).mono ?_); rintro e w7 ⟨rfl, ⟨av7, cv7, hm7⟩, hk7, hb7⟩; have c27 := hm7.c2; have cf7 := hm7.ro.cell i (by omega); have ff7 := free_block hm7.ro; have lf7 := boxLt hm7.ro; have lm7 := boxLt hm7.boxm; have hne7 := boxNe hm7.boxm hm7.ro (by decide); have hz7 := node_box (hk7.2 b6 _ HBX5.out hn61 hn62 hn63); have x0 := hz7.1; have x1 := hz7.2.1; have x2 := hz7.2.2.1; clear hz7; have cfp7 := hm7.ro.cell pn hpp; rw [HMp.out] at cfp7; have cfq7 := hm7.ro.cell qn hpq; rw [HMq.out] at cfq7; have HM7 := hid hm7; have HK7 := hid hk7; have HB7 := hid hb7; clear hm7 hk7 hb7) | fail)
            all_goals
              go_wp2_with fail
              go_roundw
              case rel => exact once_close (w5 := w5.drew) HST.out HV.out HENM.out hlt HM7.out HK7.out.1 HB7.out HROW5.out HBL5.out.drew
              case measure => simp [intOf]; omega
        --stub]
        --SEVAEL
    · obtain rfl : i = N.nodes.length := by omega
      have hst := HST.out
      have hol := HINV.out.olen
      have hMl := HINV.out.len
      simp only at hol hMl
      have c1 := HMK.out.c1
      have c2 := HMK.out.c2
      have n1 := HMK.out.n1
      have hbmlt := boxLt HMK.out.boxm
      have hbnlt := boxLt HMK.out.boxn
      have HOL := hid hol
      have hMl2 : M.length ≤ 20000 := by omega
      clear hst hol hMl hlt hle HROWK
      obtain ⟨wo, rfl⟩ : ∃ wo : World, wo = wr := ⟨_, rfl⟩
      go_wp2_with fail
      go_loopw [172] (fun v wr => FixRel N M of w.heap.size bm b bn bf bs av cv w v wr) (fun v _ => M.length - (intOf v).toNat)
      case atStart => exact ⟨0, Nat.zero_le _, rfl, HMK.out.eqM (fixTo_zero of M).symm, HBLK.out⟩
      case round =>
        obtain ⟨j, hjle, rfl, hm, hbl⟩ := hrel
        have HMF := hid hm
        have HBF := hid hbl
        clear hm hbl c1 c2 n1 hbmlt hbnlt HMK HBLK
        by_cases hjlt : j < M.length
        · obtain ⟨b1, rfl, hb1w, hB1, hf1, d0, d1, d2, d3⟩ := HMF.out.four j (by rw [fixTo_len]; exact hjlt)
          rw [fixTo_get of M hjlt] at d0 d1 d2 d3
          have hk := node_all (HINV.out.right j hjlt)
          have hrg := HINV.out.regs j hjlt
          obtain ⟨x, hx⟩ : ∃ x, M.getD j GN.zero = x := ⟨_, rfl⟩
          simp only at hk hrg
          rw [hx] at d0 d1 d2 d3 hk hrg
          obtain ⟨o, p, q, n⟩ := x
          simp only at d0 d1 d2 d3 hk hrg
          have HK := hid hk
          have HX := hid hx
          have HRG := hid hrg
          have hjI : ((j : Nat) : Int) < (M.length : Int) := by omega
          clear hk hx hrg
          by_cases ho : o = 4
          · subst ho
            have hn0 : 0 ≤ n := by have := HK.out; omega
            have hn1 : n < (N.nodes.length : Int) := by have := HK.out; omega
            obtain ⟨y, rfl⟩ := Int.eq_ofNat_of_zero_le hn0
            have hyl : y < of.length := by rw [HOL.out]; omega
            have hyI : ((y : Nat) : Int) < (of.length : Int) := by omega
            go_upto_region 28 with fail
            obtain ⟨b8, hb8⟩ : ∃ z, wr.heap.size = z := ⟨_, rfl⟩
            rw [hb8]
            have hm8 := HMF.out.stay (mk_alloc wr (.cells #[.int .i64 4, .int .i64 p, .int .i64 q, .int .i64 ((y : Nat) : Int)] 52))
            have hbl8 := HBF.out.trans ((mk_alloc wr (.cells #[.int .i64 4, .int .i64 p, .int .i64 q, .int .i64 ((y : Nat) : Int)] 52)).mono HMF.out.hB)
            have hbox8 := box_at wr (.cells #[.int .i64 4, .int .i64 p, .int .i64 q, .int .i64 ((y : Nat) : Int)] 52)
            rw [hb8] at hbox8
            generalize wr.alloc (.cells #[.int .i64 4, .int .i64 p, .int .i64 q, .int .i64 ((y : Nat) : Int)] 52) = w8 at *
            have z3 := (cell_block hbox8 3).trans (List.getElem?_toArray.trans rfl)
            have hb8lt := boxLt hbox8
            clear hbox8 d0 d1 d2 d3 hb8 hf1 hb1w
            have c1 := hm8.c1
            have c2 := hm8.c2
            have n1 := hm8.n1
            rw [fixTo_len] at n1
            have cy := hm8.ro.cell y hyl
            obtain ⟨z, hz⟩ : ∃ z, of.getD y 0 = z := ⟨_, rfl⟩
            rw [hz] at cy
            obtain ⟨b1', e1, hb1w, hB1', hf1, d0, d1, d2, d3⟩ := hm8.four j (by rw [fixTo_len]; exact hjlt)
            cases e1
            have hff := hf1 (j * 4 + 3)
            have hbmlt := boxLt hm8.boxm
            have hbnlt := boxLt hm8.boxn
            have hbflt := boxLt hm8.ro
            have HM8 := hid hm8
            have HBL8 := hid hbl8
            have HZ := hid hz
            have HF1 := hid hf1
            clear hm8 hbl8 hz d0 d1 d2 hf1
            go_region
            go_wp2_with fail
            go_roundw
            case rel =>
              refine ⟨j + 1, hjlt, by go_num, ?_, ?_⟩
              · have e : fixTo of M (j + 1) = (fixTo of M j).set j { (fixTo of M j).getD j GN.zero with next := z } := by
                  rw [fixTo_succ of M hjlt, fixTo_get of M hjlt, HX.out]
                  unfold fixN
                  simp only [if_true, Int.toNat_natCast, HZ.out]
                have h := HM8.out.setNext j (by rw [fixTo_len]; exact hjlt) z
                rw [← e] at h
                exact h.drew
              · exact (HBL8.out.setCell (p := ⟨b1, j * 4 + 3, none⟩) hB1 _).drew
            case measure => simp [intOf]; omega
          · have f4 : (o == (4 : Int)) = false := beq_eq_false_iff_ne.2 ho
            have HO := hid ho
            clear ho
            go_wp2_with fail
            go_roundw
            case rel => exact ⟨j + 1, hjlt, by go_num, (HMF.out.stay (mk_alloc _ _)).eqM (fixTo_skip of M hjlt (by rw [HX.out]; exact HO.out)).symm, HBF.out.trans ((mk_alloc _ _).mono HMF.out.hB)⟩
            case measure => simp [intOf]; omega
        · obtain rfl : j = M.length := by omega
          have hmF := HMF.out.eqM (fixTo_all of M)
          have n2 := (HN.out.stay (HBF.out.mono hB)).outs
          have hltb3 := Nat.lt_of_lt_of_le hltb HBF.out.size
          have HMX := hid hmF
          clear hmF hjlt hjle HMF
          obtain ⟨w3, rfl⟩ : ∃ w3 : World, w3 = wr := ⟨_, rfl⟩
          go_wp2_with fail
          go_loopw [204] (fun v wr => LaidRel N M of bn av cv w3 v wr) (fun v _ => N.outs.length - (intOf v).toNat)
          case atStart => exact ⟨0, none, 0, Nat.zero_le _, rfl, OutsAt.start HMX.out⟩
          case round =>
            obtain ⟨k, ao, co, hkle, rfl, hat⟩ := hrel
            have HAT := hid hat
            clear hat n2 hltb3
            by_cases hklt : k < N.outs.length
            · obtain ⟨bo, oo, rfl, hbo, hco⟩ := HN.out.ro.at (by omega)
              have hz := Net.out_at HR.out hklt
              have hbow : bo < w.heap.size := Nat.lt_of_lt_of_le hbo hB
              have hwbn : w.heap.size ≤ bn := HMX.out.hbn
              have ck3 := (HBF.out.cell (p := ⟨bo, oo + k, none⟩) hbow).trans (hco k hklt)
              have ck := HAT.out.oldCell ck3 (Nat.lt_of_lt_of_le hbow HBF.out.size) (by omega)
              have hneed := need_out HR.out HD.out hklt
              obtain ⟨y, hy⟩ : ∃ y : Nat, N.outs.getD k 0 = (y : Int) := ⟨_, (Int.toNat_of_nonneg hz.1).symm⟩
              rw [hy] at ck hz
              have hyl : y < of.length := by rw [HOL.out]; omega
              have hyI : ((y : Nat) : Int) < (of.length : Int) := by omega
              have hkI : ((k : Nat) : Int) < (N.outs.length : Int) := by omega
              have hbowr := Nat.lt_of_lt_of_le (Nat.lt_of_lt_of_le hbow HBF.out.size) HAT.out.grow.size
              obtain ⟨z, hzz⟩ : ∃ z, of.getD y 0 = z := ⟨_, rfl⟩
              have P := HAT.out.next HMX.out hyl hzz
              have c2 := P.c2
              have cm := P.cm
              have cf := P.cf
              have cy := P.cy
              have hff := P.fb
              have hl1 := P.lb
              have hl2 := P.lm
              have hl3 := P.lf
              have HY := hid hy
              have HZ := hid hzz
              have HCO := hid hco
              clear hy hz hzz hco ck3 hneed P
              go_upto_region 33 with fail
              have hne1 := boxNe HMX.out.boxm HMX.out.boxn (by decide)
              have hne2 : bf ≠ bn := by have h := HMX.out.ro; unfold RowI at h; exact boxNe h HMX.out.boxn (by decide)
              refine wpEnds.begin (fun w' => w'.cell? ⟨bm, 1, none⟩ = some (.pointer (some ⟨bn, 0, none⟩)) ∧ w'.cell? ⟨bm, 2, none⟩ = some (.slice (some ⟨bf, 0, none⟩) of.length of.length) ∧ w'.cell? ⟨bf, y, none⟩ = some (.int .i64 z) ∧ w'.cell? ⟨bn, 2, none⟩ = some (.slice ao k co)) 22 (by kernel_rfl) ⟨cm, cf, cy, c2⟩ (fun hHeld => ?_)
              refine wpEnds.take 0 23 (v := ?v0) rfl (by kernel_rfl) (by kernel_rfl) (by kernel_rfl) (by kernel_rfl) (by kernel_rfl) (fun _ _ _ h => h) (by rfl) hHeld (fun w' hSw => ?hy0) ?rest0
              case hy0 => ((try dsimp only at hSw); go_simp; try with_reducible rfl)
              case rest0 =>
              (try simp only [Act.put, List.setIfInBounds_toArray, List.set_cons_zero, List.set_cons_succ])
              refine wpEnds.take 1 23 (v := ?v1) rfl (by kernel_rfl) (by kernel_rfl) (by kernel_rfl) (by kernel_rfl) (by kernel_rfl) (fun _ _ _ h => h) (by rfl) hHeld (fun w' hSw => ?hy1) ?rest1
              case hy1 => ((try dsimp only at hSw); go_simp; try with_reducible rfl)
              case rest1 =>
              (try simp only [Act.put, List.setIfInBounds_toArray, List.set_cons_zero, List.set_cons_succ])
              refine wpEnds.take 2 23 (v := ?v2) rfl (by kernel_rfl) (by kernel_rfl) (by kernel_rfl) (by kernel_rfl) (by kernel_rfl) (fun _ _ _ h => h) (by rfl) hHeld (fun w' hSw => ?hy2) ?rest2
              case hy2 => ((try dsimp only at hSw); go_simp; try with_reducible rfl)
              case rest2 =>
              (try simp only [Act.put, List.setIfInBounds_toArray, List.set_cons_zero, List.set_cons_succ])
              refine wpEnds.take 3 23 (v := ?v3) rfl (by kernel_rfl) (by kernel_rfl) (by kernel_rfl) (by kernel_rfl) (by kernel_rfl) (fun _ _ _ h => h) (by rfl) hHeld (fun w' hSw => ?hy3) ?rest3
              case hy3 => ((try dsimp only at hSw); go_simp; try with_reducible rfl)
              case rest3 =>
              (try simp only [Act.put, List.setIfInBounds_toArray, List.set_cons_zero, List.set_cons_succ])
              refine wpEnds.take 4 23 (v := ?v4) rfl (by kernel_rfl) (by kernel_rfl) (by kernel_rfl) (by kernel_rfl) (by kernel_rfl) (fun _ _ _ h => h) (by rfl) hHeld (fun w' hSw => ?hy4) ?rest4
              case hy4 => ((try dsimp only at hSw); go_simp; try with_reducible rfl)
              case rest4 =>
              (try simp only [Act.put, List.setIfInBounds_toArray, List.set_cons_zero, List.set_cons_succ])
              refine wpEnds.take 5 23 (v := ?v5) rfl (by kernel_rfl) (by kernel_rfl) (by kernel_rfl) (by kernel_rfl) (by kernel_rfl) (fun _ _ _ h => h) (by rfl) hHeld (fun w' hSw => ?hy5) ?rest5
              case hy5 => ((try dsimp only at hSw); go_simp; try with_reducible rfl)
              case rest5 =>
              (try simp only [Act.put, List.setIfInBounds_toArray, List.set_cons_zero, List.set_cons_succ])
              refine wpEnds.take 6 23 (v := ?v6) rfl (by kernel_rfl) (by kernel_rfl) (by kernel_rfl) (by kernel_rfl) (by kernel_rfl) (fun _ _ _ h => h) (by rfl) hHeld (fun w' hSw => ?hy6) ?rest6
              case hy6 => ((try dsimp only at hSw); go_simp; try with_reducible rfl)
              case rest6 =>
              (try simp only [Act.put, List.setIfInBounds_toArray, List.set_cons_zero, List.set_cons_succ])
              refine wpEnds.take 7 23 (v := ?v7) rfl (by kernel_rfl) (by kernel_rfl) (by kernel_rfl) (by kernel_rfl) (by kernel_rfl) (fun _ _ _ h => h) (by rfl) hHeld (fun w' hSw => ?hy7) ?rest7
              case hy7 => ((try dsimp only at hSw); go_simp; try with_reducible rfl)
              case rest7 =>
              (try simp only [Act.put, List.setIfInBounds_toArray, List.set_cons_zero, List.set_cons_succ])
              refine wpEnds.take 8 23 (v := ?v8) rfl (by kernel_rfl) (by kernel_rfl) (by kernel_rfl) (by kernel_rfl) (by kernel_rfl) (fun _ _ _ h => h) (by rfl) hHeld (fun w' hSw => ?hy8) ?rest8
              case hy8 => ((try dsimp only at hSw); go_simp; try with_reducible rfl)
              case rest8 =>
              (try simp only [Act.put, List.setIfInBounds_toArray, List.set_cons_zero, List.set_cons_succ])
              refine wpEnds.take 9 23 (v := ?v9) rfl (by kernel_rfl) (by kernel_rfl) (by kernel_rfl) (by kernel_rfl) (by kernel_rfl) (fun _ _ _ h => h) (by rfl) hHeld (fun w' hSw => ?hy9) ?rest9
              case hy9 => ((try dsimp only at hSw); go_simp; try with_reducible rfl)
              case rest9 =>
              (try simp only [Act.put, List.setIfInBounds_toArray, List.set_cons_zero, List.set_cons_succ])
              refine wpEnds.take 10 23 (v := ?v10) rfl (by kernel_rfl) (by kernel_rfl) (by kernel_rfl) (by kernel_rfl) (by kernel_rfl) (fun _ _ _ h => h) (by rfl) hHeld (fun w' hSw => ?hy10) ?rest10
              case hy10 => ((try dsimp only at hSw); go_simp; try with_reducible rfl)
              case rest10 =>
              (try simp only [Act.put, List.setIfInBounds_toArray, List.set_cons_zero, List.set_cons_succ])
              refine wpEnds.take 11 23 (v := ?v11) rfl (by kernel_rfl) (by kernel_rfl) (by kernel_rfl) (by kernel_rfl) (by kernel_rfl) (fun _ _ _ h => h) (by rfl) hHeld (fun w' hSw => ?hy11) ?rest11
              case hy11 => ((try dsimp only at hSw); go_simp; try with_reducible rfl)
              case rest11 =>
              (try simp only [Act.put, List.setIfInBounds_toArray, List.set_cons_zero, List.set_cons_succ])
              refine wpEnds.take 12 23 (v := ?v12) rfl (by kernel_rfl) (by kernel_rfl) (by kernel_rfl) (by kernel_rfl) (by kernel_rfl) (fun _ _ _ h => h) (by rfl) hHeld (fun w' hSw => ?hy12) ?rest12
              case hy12 => ((try dsimp only at hSw); go_simp; try with_reducible rfl)
              case rest12 =>
              (try simp only [Act.put, List.setIfInBounds_toArray, List.set_cons_zero, List.set_cons_succ])
              refine wpEnds.take 13 23 (v := ?v13) rfl (by kernel_rfl) (by kernel_rfl) (by kernel_rfl) (by kernel_rfl) (by kernel_rfl) (fun _ _ _ h => h) (by rfl) hHeld (fun w' hSw => ?hy13) ?rest13
              case hy13 => ((try dsimp only at hSw); go_simp; try with_reducible rfl)
              case rest13 =>
              (try simp only [Act.put, List.setIfInBounds_toArray, List.set_cons_zero, List.set_cons_succ])
              refine wpEnds.take 14 23 (v := ?v14) rfl (by kernel_rfl) (by kernel_rfl) (by kernel_rfl) (by kernel_rfl) (by kernel_rfl) (fun _ _ _ h => h) (by rfl) hHeld (fun w' hSw => ?hy14) ?rest14
              case hy14 => ((try dsimp only at hSw); go_simp; try with_reducible rfl)
              case rest14 =>
              (try simp only [Act.put, List.setIfInBounds_toArray, List.set_cons_zero, List.set_cons_succ])
              refine wpEnds.take 15 23 (v := ?v15) rfl (by kernel_rfl) (by kernel_rfl) (by kernel_rfl) (by kernel_rfl) (by kernel_rfl) (fun _ _ _ h => h) (by rfl) hHeld (fun w' hSw => ?hy15) ?rest15
              case hy15 => ((try dsimp only at hSw); go_simp; try with_reducible rfl)
              case rest15 =>
              (try simp only [Act.put, List.setIfInBounds_toArray, List.set_cons_zero, List.set_cons_succ])
              refine wpEnds.take 16 23 (v := ?v16) rfl (by kernel_rfl) (by kernel_rfl) (by kernel_rfl) (by kernel_rfl) (by kernel_rfl) (fun _ _ _ h => h) (by rfl) hHeld (fun w' hSw => ?hy16) ?rest16
              case hy16 => ((try dsimp only at hSw); go_simp; try with_reducible rfl)
              case rest16 =>
              (try simp only [Act.put, List.setIfInBounds_toArray, List.set_cons_zero, List.set_cons_succ])
              refine wpEnds.take 17 23 (v := ?v17) rfl (by kernel_rfl) (by kernel_rfl) (by kernel_rfl) (by kernel_rfl) (by kernel_rfl) (fun _ _ _ h => h) (by rfl) hHeld (fun w' hSw => ?hy17) ?rest17
              case hy17 => ((try dsimp only at hSw); go_simp; try with_reducible rfl)
              case rest17 =>
              (try simp only [Act.put, List.setIfInBounds_toArray, List.set_cons_zero, List.set_cons_succ])
              refine wpEnds.one 18 (by kernel_rfl) rfl (fun K hK => ?_)
              go_simp
              refine hK.out _ _ ⟨((mk_alloc_drew _ _).cell hl2).trans cm, ((mk_alloc_drew _ _).cell hl2).trans cf, ((mk_alloc_drew _ _).cell hl3).trans cy, ((mk_alloc_drew _ _).cell hl1).trans c2⟩ ?_
              clear hK K
              (try simp only [Act.put, List.setIfInBounds_toArray, List.set_cons_zero, List.set_cons_succ])
              refine wpEnds.one 19 (by kernel_rfl) rfl (fun K hK => ?_)
              refine append_held (by rfl) _ _ 24 (by rfl) w3.heap.size 3 i0 _ 1 8 Try.underlying24 hi hz0 hz1 hz2 (by rfl) (by decide) (.slice ao k co) k (((N.outs.take k).map fun k => of.getD k.toNat 0).map (Value.int .i64)) (by rfl) ((HAT.out.row.alloc _).drew) (some ⟨wr.heap.size, 0, none⟩) 1 1 [.int .i64 z] (by rfl) (by intro h; cases h) (by rfl) (by rintro ad' h j' u hj'; cases h; rw [Addr.add_at]; exact (cell_new _ _ _ _).trans (by simpa using hj')) (by simp [Value.oneCell']) (by unfold maxLen; omega) (by omega) (by have := HAT.out.grow.size; simp; omega) ?_
              intro av1 cv1 wb HPO HRN hgb
              have P := laid_push HAT.out HMX.out hklt HY.out HZ.out hyl (mk_alloc_drew _ _) hgb.out HRN.out
              have cb := P.c2
              have hbfr := P.fb
              have hblt := P.lb
              have cbm := P.cm
              have cbf := P.cf
              have cby := P.cy
              have hmlt := P.lm
              have HEND := hid P.rel
              clear P HPO HRN hgb
              refine hK.out _ _ ⟨cbm, cbf, cby, cb⟩ ?_
              clear hK K
              (try simp only [Act.put, List.setIfInBounds_toArray, List.set_cons_zero, List.set_cons_succ])
              refine wpEnds.take 20 23 (v := ?v20) rfl (by kernel_rfl) (by kernel_rfl) (by kernel_rfl) (by kernel_rfl) (by kernel_rfl) (fun _ _ _ h => h) (by rfl) ⟨cbm, cbf, cby, cb⟩ (fun w' hSw => ?hy20) ?rest20
              case hy20 => ((try dsimp only at hSw); go_simp; try with_reducible rfl)
              case rest20 =>
              (try simp only [Act.put, List.setIfInBounds_toArray, List.set_cons_zero, List.set_cons_succ])
              refine wpEnds.take 21 23 (v := ?v21) rfl (by kernel_rfl) (by kernel_rfl) (by kernel_rfl) (by kernel_rfl) (by kernel_rfl) (fun _ _ _ h => h) (by rfl) ⟨cbm, cbf, cby, cb⟩ (fun w' hSw => ?hy21) ?rest21
              case hy21 => ((try dsimp only at hSw); go_simp; try with_reducible rfl)
              case rest21 =>
              (try simp only [Act.put, List.setIfInBounds_toArray, List.set_cons_zero, List.set_cons_succ])
              refine wpEnds.last 22 (by kernel_rfl) (by kernel_rfl) rfl (fun K hK => ?_)
              go_simp
              refine hK.out _ _ ?_
              clear hK K
              (try simp only [Act.put, List.setIfInBounds_toArray, List.set_cons_zero, List.set_cons_succ])
              all_goals
                obtain ⟨ao2, co2, hat2⟩ := HEND.out
                have HAT2 := hid hat2
                clear hat2
                go_wp2_with fail
                go_roundw
                case rel => exact ⟨k + 1, ao2, co2, hklt, by go_num, HAT2.out⟩
                case measure => simp [intOf]; omega
            · obtain rfl : k = N.outs.length := by omega
              have c1 : wr.cell? ⟨bm, 1, none⟩ = some (.pointer (some ⟨bn, 0, none⟩)) := (cell_block (HAT.out.old HMX.out.boxm (boxNe HMX.out.boxm HMX.out.boxn (by decide))) 1).trans rfl
              have hl2 := boxLt (HAT.out.old HMX.out.boxm (boxNe HMX.out.boxm HMX.out.boxn (by decide)))
              go_wp2_with fail
              go_ret
              refine ⟨bn, need, av, cv, ao, co, rfl, HD.out, ?_, HBF.out.trans (belowGrown HAT.out.grow HBF.out.size HMX.out.hbn)⟩
              have h := HAT.out.net HMX.out (by simp; omega) (by omega)
              rw [List.take_length] at h
              unfold onceN
              rw [HST.out]
              exact h
end Go.Proofs.Ytlaeflpddehipaa

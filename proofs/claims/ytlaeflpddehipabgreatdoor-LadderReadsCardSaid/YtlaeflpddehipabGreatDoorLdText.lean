/- ladder.text: cells as text. -/
import Derived.Test.YtlaeflpddehipabGreatDoorSameCl
import Derived.Lib.Join
set_option linter.unusedVariables false
set_option linter.unusedSimpArgs false
namespace Go.Proofs.YtlaeflpddehipabGreatDoor
open Go.RowKit
attribute [local go_sem ↓] Go.wp_at_zero Go.wp_at_succ

/-- What is written of cells (of ways), piece by piece. -/
def Tr.pieces : Tr → List Bs
  | .nil => []
  | .one no nm n => (if no then 47 :: nm else nm) :: n.pieces
  | .many ws n => (91 :: (Lib.join ws.pieces [32, 124, 32] ++ [93])) :: n.pieces
  | .way l n => Lib.join l.pieces [32] :: n.pieces
def ctext (t : Tr) : Bs := Lib.join t.pieces [32]
theorem pieces_len : ∀ t : Tr, t.pieces.length = t.len
  | .nil => rfl
  | .one _ _ n => by simp [Tr.pieces, Tr.len, pieces_len n]
  | .many _ n => by simp [Tr.pieces, Tr.len, pieces_len n]
  | .way _ n => by simp [Tr.pieces, Tr.len, pieces_len n]
def sum3 : List Bs → Nat
  | [] => 0
  | p :: ps => p.length + 3 + sum3 ps
theorem join_le (sep : Bs) (hs : sep.length ≤ 3) : ∀ ps : List Bs, (Lib.join ps sep).length ≤ sum3 ps
  | [] => by simp [Lib.join_nil, sum3]
  | [p] => by simp [Lib.join_one, sum3]
  | p :: q :: ps => by
    have ih := join_le sep hs (q :: ps)
    rw [Lib.join_cons] at ih ⊢
    have : Lib.joinTail sep (q :: ps) = sep ++ q ++ Lib.joinTail sep ps := by simp [Lib.joinTail]
    rw [this]
    simp only [List.length_append, sum3] at ih ⊢
    omega
theorem sum3_le : ∀ (b : Bool) (t : Tr), t.wf b → sum3 t.pieces ≤ 16 * t.tot
  | _, .nil, _ => by simp [Tr.pieces, sum3]
  | false, .one no nm n, h => by
    have ih := sum3_le false n h.2
    have h12 : nm.length ≤ 12 := h.1
    cases no <;> simp [Tr.pieces, sum3, Tr.tot] <;> omega
  | true, .one no nm n, h => h.elim
  | false, .many ws n, h => by
    have ih := sum3_le false n h.2.2
    have ih2 := sum3_le true ws h.2.1
    have hj := join_le [32, 124, 32] (by simp) ws.pieces
    simp [Tr.pieces, sum3, Tr.tot]
    omega
  | true, .many ws n, h => h.elim
  | true, .way l n, h => by
    have ih := sum3_le true n h.2
    have ih2 := sum3_le false l h.1
    have hj := join_le [32] (by simp) l.pieces
    simp [Tr.pieces, sum3, Tr.tot]
    omega
  | false, .way l n, h => h.elim
theorem Tryz.infoStr : (Tryz.prog.info? 9).map (fun i => (i.zero, i.size, i.bytes)) = some (some (.string ⟨#[]⟩), 1, 16) := by kernel_rfl
theorem maps_back : ∀ ps : List Bs, (ps.map fun l : Bs => (⟨l.toArray⟩ : ByteArray)).map (·.data.toList) = ps
  | [] => rfl
  | p :: ps => by rw [List.map_cons, List.map_cons, maps_back ps]
theorem join_any (ps : List Bs) (sep : Bs) (a : Option Addr) (n c : Nat) (w : World) (base : Nat) (hn : ps.length = n) (hown : w.ownsRow base 9 1 (.slice a n c) n (ps.map st)) (hlen : (Lib.join ps sep).length ≤ 100000000) (hps : ps.length ≤ 100000000) :
    Calls Tryz.prog 56 #[.slice a n c, st sep] w fun e w' => e = .returned (st (Lib.join ps sep)) ∧ Below w.heap.size w w' := by
  subst hn
  rcases hown.2 with ⟨e, h0⟩ | ⟨g, cap, cur, e, _, hg, hnc, _⟩
  · injection e with e1 e2 e3
    have hp : ps = [] := List.eq_nil_of_length_eq_zero h0
    rw [hp]
    exact (Tryz.strings_Join_none a c ⟨sep.toArray⟩ w).mono fun e w' ⟨h1, h2⟩ => ⟨h1, h2 ▸ Below.refl _ _⟩
  · injection e with e1 e2 e3
    subst e1 e3
    have hc := hown.cells (g := g) rfl
    have h := Tryz.strings_Join g 0 c (ps.map fun l => ⟨l.toArray⟩) ⟨sep.toArray⟩ w (fun j x hj => by
      have := hc j (.string x) (by
        rw [List.getElem?_map] at hj ⊢
        cases hq : ps[j]? with
        | none => rw [hq] at hj; cases hj
        | some l => rw [hq] at hj; cases hj; rfl)
      rw [Addr.add_at] at this
      rw [Nat.zero_add]
      exact this) (boxLt hg) (by rw [List.length_map]; omega) (by rw [List.length_map]; exact hnc) (by
        rw [maps_back]
        exact Nat.le_trans hlen (by decide))
    rw [List.length_map, maps_back] at h
    exact h
/-- Between two cells. -/
def TxRel (w : World) (t : Tr) (g : Nat) (o u : Value) (wr : World) : Prop := ∃ (k : Nat) (tr : Tr) (dn : List Bs), u = .int .i64 k ∧ Below w.heap.size w wr ∧ tr.wf false ∧ CAt w tr g (k * 3) ∧ k + tr.len = t.len ∧ tr.tot ≤ t.tot ∧ wr.ownsRow w.heap.size 9 1 o k (dn.map st) ∧ dn ++ tr.pieces = t.pieces ∧ dn.length = k
theorem str_cons (c : UInt8) (l : Bs) : (⟨#[c]⟩ : ByteArray) ++ ⟨l.toArray⟩ = ⟨(c :: l).toArray⟩ := by
  apply ByteArray.ext
  apply Array.ext'
  simp [ByteArray.data_append]
theorem str_brack (l : Bs) : (⟨#[91]⟩ : ByteArray) ++ ⟨l.toArray⟩ ++ ⟨#[93]⟩ = ⟨(91 :: (l ++ [93])).toArray⟩ := by
  apply ByteArray.ext
  apply Array.ext'
  simp [ByteArray.data_append]
theorem TxRel.push {w wr w2 w9 : World} {t n : Tr} {g k : Nat} {o v9 : Value} {dn : List Bs} {p : Bs} (hb : Below w.heap.size w w9) (hw : n.wf false) (hc : CAt w n g ((k + 1) * 3)) (hk : k + 1 + n.len = t.len) (ht : n.tot ≤ t.tot) (ho : w9.ownsRow w.heap.size 9 1 v9 (k + 1) (dn.map st ++ [st p])) (hp : dn ++ p :: n.pieces = t.pieces) (hd : dn.length = k) : TxRel w t g v9 (.int .i64 ((k + 1 : Nat) : Int)) w9 :=
  ⟨k + 1, n, dn ++ [p], rfl, hb, hw, hc, hk, ht, by rw [List.map_append]; exact ho, by rw [List.append_assoc]; exact hp, by rw [List.length_append, hd]; rfl⟩
set_option maxRecDepth 100000 in
set_option maxHeartbeats 3200000 in
theorem text_any : ∀ (N : Nat) (t : Tr), t.tot < N → t.tot ≤ 1000000 → t.wf false → ∀ (v : Value) (w : World), SAt w t v → Calls Tryz.prog 28 #[v] w fun e w' => e = .returned (st (ctext t)) ∧ Below w.heap.size w w' := by
  intro N
  induction N with
  | zero => intro t h; omega
  | succ N ih =>
    intro t hN ht hwf v w hv
    have IH := hid ih
    obtain ⟨a, c, rfl, hc, h1⟩ := hv
    clear ih
    have hlt := t.len_tot
    have hsum := sum3_le false t hwf
    have hjl := join_le [32] (by simp) t.pieces
    have hpl := pieces_len t
    have HJ := hid (show (Lib.join t.pieces [32]).length ≤ 100000000 by omega)
    have HPL := hid (show t.pieces.length ≤ 100000000 by omega)
    clear hsum hjl hpl
    obtain ⟨i0, hi, hz0, hz1, hz2⟩ := info_parts Tryz.infoStr
    go_enter Tryz.func28, Tryz.ntmps28
    go_upto_region 3 with fail
    rcases h1 with h0 | ⟨g, rfl, hg⟩
    · have h0I : ¬ (0 : Int) < (t.len : Int) := by omega
      have HT0 := hid (show t = .nil by cases t <;> simp_all [Tr.len])
      go_loopw [3, 11] (fun o u wr => o = .slice none 0 0 ∧ u = .int .i64 0 ∧ wr = w) (fun _ _ _ => 0)
      case atStart => exact ⟨rfl, rfl, rfl⟩
      case round =>
        obtain ⟨rfl, rfl, hwr⟩ := hrel
        subst wr
        have hj := join_any [] [32] none 0 0 w 0 rfl (World.ownsRow_nil _ _ _ _) (by simp [Lib.join_nil]) (by simp)
        have HJ0 := hid hj
        clear hj
        go_wp2_with (go_at_call 56; (with_reducible refine HJ0.out.mono ?_); rintro e w5 ⟨rfl, hb5⟩)
        go_ret
        rw [HT0.out]
        exact ⟨rfl, hb5⟩
    · go_loopw [3, 11] (fun o u wr => TxRel w t g o u wr) (fun _ u _ => t.len - (intOf u).toNat)
      case atStart => exact ⟨0, t, [], rfl, Below.refl _ _, hwf, hg, Nat.zero_add _, Nat.le_refl _, World.ownsRow_nil _ _ _ _, rfl, rfl⟩
      case round =>
        obtain ⟨k, tr, dn, rfl, hb, hw1, hc1, hk, htt, ho, hpc, hdn⟩ := hrel
        have HO := hid ho
        have HB := hid hb
        have HPC := hid hpc
        have HDN := hid hdn
        have hcr := hc1.keep (w' := wr) (fun a v h => (hb.cell (p := a) (boxLt4 h)).trans h)
        obtain ⟨ao, co, rfl⟩ := owns_slice ho
        clear ho hb hpc hdn
        cases tr with
        | nil =>
          have hkI : ¬ (k : Int) < (t.len : Int) := by simp [Tr.len] at hk; omega
          have HDT := hid (show dn = t.pieces by have := HPC.out; simpa [Tr.pieces] using this)
          have hkk : k = t.len := by simpa [Tr.len] using hk
          have hj := join_any t.pieces [32] ao k co wr w.heap.size (by rw [← HDT.out]; exact HDN.out) (by rw [← HDT.out]; exact HO.out) HJ.out HPL.out
          have HJ0 := hid hj
          clear hj hk htt hkk
          go_wp2_with (go_at_call 56; (with_reducible refine HJ0.out.mono ?_); rintro e w5 ⟨rfl, hb5⟩)
          go_ret
          exact ⟨rfl, HB.out.trans (hb5.mono HB.out.size)⟩
        | one no nm n =>
          obtain ⟨x0, x1, x2, x3⟩ := hcr
          have HX := hid hc1.2.2.2
          have HW := hid hw1.2
          have hnm12 : nm.length ≤ 12 := hw1.1
          have hnms := st_size nm
          have hkI : (k : Int) < (t.len : Int) := by simp [Tr.len] at hk; omega
          have hk0 : (0 : Int) ≤ (k : Int) := by omega
          have hkl : k < t.len := by simp [Tr.len] at hk; omega
          have HKN := hid (show k + 1 + n.len = t.len by simp [Tr.len] at hk; omega)
          have HTN := hid (show n.tot ≤ t.tot by simp [Tr.tot] at htt; omega)
          clear x3 hw1 hc1 hk htt
          cases no with
          | true =>
            go_upto_region 15 with fail
            have h2 : Below wr.heap.size wr (wr.alloc (.cells #[st nm, .bool true, .slice none 0 0] 77)) := (Below.refl _ _).alloc (Nat.le_refl _) _
            have hbx : (wr.alloc (.cells #[st nm, .bool true, .slice none 0 0] 77)).heap[wr.heap.size]? = some (.cells #[st nm, .bool true, .slice none 0 0] 77 (0, 0)) := heap_alloc_new wr _
            obtain ⟨bx, hbxe⟩ : ∃ bx, wr.heap.size = bx := ⟨_, rfl⟩
            have HB2 := hid (HB.out.trans (h2.mono HB.out.size))
            have HO2 := hid (rowOld HO.out h2)
            rw [hbxe] at hbx
            rw [hbxe]
            generalize wr.alloc _ = w2 at hbx HB2 HO2 ⊢
            have z0 : w2.cell? ⟨bx, 0, none⟩ = some (st nm) := (cell_block hbx 0).trans rfl
            have z2 : w2.cell? ⟨bx, 2, none⟩ = some (.slice none 0 0) := (cell_block hbx 2).trans rfl
            have hlx := boxLt hbx
            clear h2 hbx hbxe
            go_wp2_with (at_builtin; refine wpList_push _ w w2 rfl _ _ 24 rfl 9 i0 _ 1 16 Tryz.underlying24 hi hz0 hz1 hz2 rfl (by decide) w.heap.size (.slice ao k co) k (dn.map st) rfl HO2.out 1 1 _ rfl rfl rfl rfl (by unfold maxLen; omega) (by omega) HB2.out (Nat.le_refl _) HB2.out.size ?_; intro v9 w9 k1 k2 k3 k4; obtain ⟨a9, c9, rfl⟩ := owns_slice k1; have K1 := hid k1; have K2 := hid k2; clear k1 k2 k3 k4)
            go_roundw
            case rel => exact ⟨k + 1, n, dn ++ [47 :: nm], by go_num, K2.out, HW.out, by rw [Nat.succ_mul]; exact HX.out, HKN.out, HTN.out, by
              have h := K1.out
              rw [str_cons] at h
              rw [List.map_append]
              exact h, by rw [List.append_assoc]; exact HPC.out, by rw [List.length_append, HDN.out]; rfl⟩
            case measure => simp [intOf]; omega
          | false =>
            go_upto_region 5 with fail
            have h2 : Below wr.heap.size wr (wr.alloc (.cells #[st nm, .bool false, .slice none 0 0] 77)) := (Below.refl _ _).alloc (Nat.le_refl _) _
            have hbx : (wr.alloc (.cells #[st nm, .bool false, .slice none 0 0] 77)).heap[wr.heap.size]? = some (.cells #[st nm, .bool false, .slice none 0 0] 77 (0, 0)) := heap_alloc_new wr _
            obtain ⟨bx, hbxe⟩ : ∃ bx, wr.heap.size = bx := ⟨_, rfl⟩
            have HB2 := hid (HB.out.trans (h2.mono HB.out.size))
            have HO2 := hid (rowOld HO.out h2)
            rw [hbxe] at hbx
            rw [hbxe]
            generalize wr.alloc _ = w2 at hbx HB2 HO2 ⊢
            have z0 : w2.cell? ⟨bx, 0, none⟩ = some (st nm) := (cell_block hbx 0).trans rfl
            have z2 : w2.cell? ⟨bx, 2, none⟩ = some (.slice none 0 0) := (cell_block hbx 2).trans rfl
            have hlx := boxLt hbx
            clear h2 hbx hbxe
            go_wp2_with (at_builtin; refine wpList_push _ w w2 rfl _ _ 24 rfl 9 i0 _ 1 16 Tryz.underlying24 hi hz0 hz1 hz2 rfl (by decide) w.heap.size (.slice ao k co) k (dn.map st) rfl HO2.out 1 1 _ rfl rfl rfl rfl (by unfold maxLen; omega) (by omega) HB2.out (Nat.le_refl _) HB2.out.size ?_; intro v9 w9 k1 k2 k3 k4; obtain ⟨a9, c9, rfl⟩ := owns_slice k1; have K1 := hid k1; have K2 := hid k2; clear k1 k2 k3 k4)
            go_roundw
            case rel => exact ⟨k + 1, n, dn ++ [nm], by go_num, K2.out, HW.out, by rw [Nat.succ_mul]; exact HX.out, HKN.out, HTN.out, by
              have h := K1.out
              skip
              rw [List.map_append]
              exact h, by rw [List.append_assoc]; exact HPC.out, by rw [List.length_append, HDN.out]; rfl⟩
            case measure => simp [intOf]; omega
        | many ws n =>
          obtain ⟨x0, x1, ⟨ax, cx, x2, hcx, x4⟩, x3⟩ := hcr
          obtain ⟨⟨l0, m0, hws⟩, hwt, hwn⟩ := hw1
          have HX := hid hc1.2.2.2
          have hwl : 0 < ws.len := by rw [hws]; simp [Tr.len]
          obtain ⟨gx, rfl, hgx⟩ := x4.resolve_left (by omega)
          have HW := hid hwn
          have HWT := hid hwt
          have HGX := hid hgx
          have hkI : (k : Int) < (t.len : Int) := by simp [Tr.len] at hk; omega
          have hk0 : (0 : Int) ≤ (k : Int) := by omega
          have hkl : k < t.len := by simp [Tr.len] at hk; omega
          have HKN := hid (show k + 1 + n.len = t.len by simp [Tr.len] at hk; omega)
          have htn : 1 + ws.tot + n.tot ≤ t.tot := htt
          have HTN := hid (show n.tot ≤ t.tot by omega)
          have htw : ws.tot < N := by omega
          have hwl1 : ws.tot ≤ 1000000 := by omega
          have hwl3 : ws.len ≤ 1000000 := by have := ws.len_tot; omega
          have hwlI : (0 : Int) < (ws.len : Int) := by omega
          have hws3 := sum3_le true ws hwt
          have hwj := join_le [32, 124, 32] (by simp) ws.pieces
          have HWJ := hid (show (Lib.join ws.pieces [32, 124, 32]).length ≤ 100000000 by omega)
          have HWP := hid (show ws.pieces.length ≤ 100000000 by rw [pieces_len]; omega)
          clear x3 hwn hwt hws hgx x4 hc1 hk htt htn hws3 hwj
          go_upto_region 9 with fail
          have h2 : Below wr.heap.size wr (wr.alloc (.cells #[st [], .bool false, .slice (some ⟨gx, 0, none⟩) ws.len cx] 77)) := (Below.refl _ _).alloc (Nat.le_refl _) _
          have hbx : (wr.alloc (.cells #[st [], .bool false, .slice (some ⟨gx, 0, none⟩) ws.len cx] 77)).heap[wr.heap.size]? = some (.cells #[st [], .bool false, .slice (some ⟨gx, 0, none⟩) ws.len cx] 77 (0, 0)) := heap_alloc_new wr _
          obtain ⟨bx, hbxe⟩ : ∃ bx, wr.heap.size = bx := ⟨_, rfl⟩
          have HB2 := hid (HB.out.trans (h2.mono HB.out.size))
          have HO2 := hid (rowOld HO.out h2)
          have HWR := hid h2
          rw [hbxe] at hbx
          rw [hbxe]
          generalize wr.alloc _ = w2 at hbx HB2 HO2 HWR ⊢
          have z0 : w2.cell? ⟨bx, 0, none⟩ = some (st []) := (cell_block hbx 0).trans rfl
          have z2 : w2.cell? ⟨bx, 2, none⟩ = some (.slice (some ⟨gx, 0, none⟩) ws.len cx) := (cell_block hbx 2).trans rfl
          have hlx := boxLt hbx
          clear h2 hbx hbxe
          have HGX2 := hid (HGX.out.keep (w' := w2) (fun a v h => (HWR.out.cell (p := a) (boxLt4 h)).trans h))
          clear z0 z2 hlx
          go_loopw [6, 28] (fun o u wx => ∃ (k2 : Nat) (tw : Tr) (dw : List Bs), u = .int .i64 k2 ∧ Below w2.heap.size w2 wx ∧ tw.wf true ∧ CAt w2 tw gx k2 ∧ k2 + tw.len = ws.len ∧ tw.tot ≤ ws.tot ∧ wx.ownsRow w2.heap.size 9 1 o k2 (dw.map st) ∧ dw ++ tw.pieces = ws.pieces ∧ dw.length = k2) (fun _ u _ => ws.len - (intOf u).toNat)
          case atStart => exact ⟨0, ws, [], rfl, Below.refl _ _, HWT.out, HGX2.out, Nat.zero_add _, Nat.le_refl _, World.ownsRow_nil _ _ _ _, rfl, rfl⟩
          case round =>
            rename World => wi
            obtain ⟨k2, tw, dw, rfl, jb, jw, jc, jk, jt, jo, jp, jd⟩ := hrel
            have JB := hid jb
            have JO := hid jo
            have JP := hid jp
            have JD := hid jd
            obtain ⟨a2, c2, rfl⟩ := owns_slice jo
            have jcr := jc.keep (w' := wi) (fun a v h => (jb.cell (p := a) (boxLt4 h)).trans h)
            clear jb jo jp jd
            cases tw with
            | nil =>
              have hkI2 : ¬ (k2 : Int) < (ws.len : Int) := by simp [Tr.len] at jk; omega
              have HDT := hid (show dw = ws.pieces by have := JP.out; simpa [Tr.pieces] using this)
              have hj := join_any ws.pieces [32, 124, 32] a2 k2 c2 wi w2.heap.size (by rw [← HDT.out]; exact JD.out) (by rw [← HDT.out]; exact JO.out) HWJ.out HWP.out
              have HJ0 := hid hj
              have hwj9 := HWJ.out
              have hwjs := st_size (Lib.join ws.pieces [32, 124, 32])
              clear hj jk jt jw jc
              go_wp2_with (first
                | (go_at_call 56; (with_reducible refine HJ0.out.mono ?_); rintro e w5 ⟨rfl, hb5⟩; have HB5 := hid (HB2.out.trans ((JB.out.trans (hb5.mono JB.out.size)).mono HB2.out.size)); have HO5 := hid (rowOld (rowOld HO2.out JB.out) hb5); clear hb5)
                | (at_builtin; refine wpList_push _ w w5 rfl _ _ 24 rfl 9 i0 _ 1 16 Tryz.underlying24 hi hz0 hz1 hz2 rfl (by decide) w.heap.size (.slice ao k co) k (dn.map st) rfl HO5.out 1 1 _ rfl rfl rfl rfl (by unfold maxLen; omega) (by omega) HB5.out (Nat.le_refl _) HB5.out.size ?_; intro v9 w9 k1 k2 k3 k4; obtain ⟨a9, c9, rfl⟩ := owns_slice k1; have K1 := hid k1; have K2 := hid k2; clear k1 k2 k3 k4))
              go_roundw
              case rel => exact ⟨k + 1, n, dn ++ [91 :: (Lib.join ws.pieces [32, 124, 32] ++ [93])], by go_num, K2.out, HW.out, by rw [Nat.succ_mul]; exact HX.out, HKN.out, HTN.out, by
                have h := K1.out
                rw [str_brack] at h
                rw [List.map_append]
                exact h, by rw [List.append_assoc]; exact HPC.out, by rw [List.length_append, HDN.out]; rfl⟩
              case measure => simp [intOf]; omega
            | one no nm n2 => exact jw.elim
            | many ws2 n2 => exact jw.elim
            | way l n2 =>
              obtain ⟨⟨al, cl, p0, hcl, p1⟩, p3⟩ := jcr
              obtain ⟨hwl2, hwn2⟩ := jw
              have HL := hid (show SAt wi l (.slice al l.len cl) from ⟨al, cl, rfl, hcl, p1⟩)
              have P3 := hid jc.2
              have HWL := hid hwl2
              have HWM := hid hwn2
              have hkI2 : (k2 : Int) < (ws.len : Int) := by simp [Tr.len] at jk; omega
              have hk20 : (0 : Int) ≤ (k2 : Int) := by omega
              have hkl2 : k2 < ws.len := by simp [Tr.len] at jk; omega
              have HKN2 := hid (show k2 + 1 + n2.len = ws.len by simp [Tr.len] at jk; omega)
              have htn2 : 1 + l.tot + n2.tot ≤ ws.tot := jt
              have HTN2 := hid (show n2.tot ≤ ws.tot by omega)
              have hl1 : l.tot < N := by omega
              have hl2 : l.tot ≤ 1000000 := by omega
              clear p1 p3 hwl2 hwn2 jk jt htn2 jc
              go_wp2_with (first
                | (go_at_call 28; (with_reducible refine (IH.out l hl1 hl2 HWL.out _ wi HL.out).mono ?_); rintro e w5 ⟨rfl, hb5⟩; have HB5 := hid (JB.out.trans (hb5.mono JB.out.size)); have HO5 := hid (rowOld JO.out hb5); clear hb5)
                | (at_builtin; refine wpList_push _ w2 w5 rfl _ _ 24 rfl 9 i0 _ 1 16 Tryz.underlying24 hi hz0 hz1 hz2 rfl (by decide) w2.heap.size (.slice a2 k2 c2) k2 (dw.map st) rfl HO5.out 1 1 _ rfl rfl rfl rfl (by unfold maxLen; omega) (by omega) HB5.out (Nat.le_refl _) HB5.out.size ?_; intro v9 w9 k1 k2' k3 k4; obtain ⟨a9, c9, rfl⟩ := owns_slice k1; have K1 := hid k1; have K2 := hid k2'; clear k1 k2' k3 k4))
              go_roundw
              case rel => exact ⟨k2 + 1, n2, dw ++ [ctext l], by go_num, K2.out, HWM.out, P3.out, HKN2.out, HTN2.out, by
                have h := K1.out
                rw [List.map_append]
                exact h, by rw [List.append_assoc]; exact JP.out, by rw [List.length_append, JD.out]; rfl⟩
              case measure => simp [intOf]; omega
        | way l n => exact hw1.elim
end Go.Proofs.YtlaeflpddehipabGreatDoor

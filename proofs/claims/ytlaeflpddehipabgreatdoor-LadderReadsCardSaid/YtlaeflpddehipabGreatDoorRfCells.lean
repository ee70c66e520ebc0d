/- The document's reader of a line: cells. -/
import Derived.Test.YtlaeflpddehipabGreatDoorRfLine
import Derived.Test.YtlaeflpddehipabGreatDoorEnds
set_option linter.unusedVariables false
set_option linter.unusedSimpArgs false
namespace Go.Proofs.YtlaeflpddehipabGreatDoor
open Go.RowKit
attribute [local go_sem ↓] Go.wp_at_zero Go.wp_at_succ

/-- append(row, whatever). -/
theorem ldAny {P : Program} {ops : Array Oper} {rest : List Oper} {o : Oper} {a : Act} {Q : Exit → Act → World → Prop} (W W1 wr : World) (hgd : o.guard = none) (s x : Operand) (t : TypeId)
    (ho : o.op = .call { callee := .builtin .append, args := #[s, x], argTypes := #[t, t] })
    (e : TypeId) (i : TypeInfo) (z : Value) (size bytes : Nat) (ht : P.underlying t = some (.slice e)) (hi : P.info? e = some i) (hz : i.zero = some z)
    (hsize : i.size = size) (hby : i.bytes = bytes) (hzs : z.cells.size = size) (hsz : 0 < size)
    (v : Value) (tr : Tr) (n : Nat) (hn : tr.len = n) (hs : a.eval s = v) (hown : RowRep W wr e size v tr)
    (cs : Array Value) (hW : W1 = wr.alloc (.cells cs e)) (hx : a.eval x = .slice (some ⟨wr.heap.size, 0, none⟩) 1 1) (hl : cs.size = size) (h1 : cs.toList.all Value.oneCell' = true)
    (hn4 : n ≤ 1000000) (hb4 : bytes ≤ 1000) (hB : W.heap.size ≤ wr.heap.size)
    (h : ∀ av' cv' wb, Hid ((wr.alloc (.cells cs e)).grownBy wb v.ownBlock) → wpList P ops Q rest (a.put o.dst (.slice av' (n + 1) cv')) wb) :
    wpList P ops Q (o :: rest) a W1 := by
  subst hW hn
  obtain ⟨xs, P0, g1, g2, g3⟩ := hown
  have hb0 : Below wr.heap.size wr (wr.alloc (.cells cs e)) := (Below.refl _ _).alloc (Nat.le_refl _) _
  have hbytes : (tr.len + 1) * bytes ≤ 140737488355328 := Nat.le_trans (Nat.mul_le_mul (show tr.len + 1 ≤ 1000001 by omega) hb4) (by decide)
  refine wpList_append_own_at _ hgd s x t ho W.heap.size e i z size bytes ht hi hz hsize hby hzs hsz v tr.len xs hs (rowOld g1 hb0) ⟨wr.heap.size, 0, none⟩ 1 1 cs.toList hx (by simpa using hl) ?_ (fun u hu => List.all_eq_true.1 h1 u hu) (by unfold maxLen; omega) hbytes (Nat.le_trans hB (by simp)) ?_
  · intro j u hj
    rw [Addr.add_at, cell_new]
    simpa using hj
  · intro v' wb k1 k2 k3 k4
    obtain ⟨av', cv', rfl⟩ := owns_slice k1
    exact h av' cv' wb (hid k2)
theorem ldAny_held {P : Program} {ops : Array Oper} {o : Oper} {a : Act} {K : Act → World → Prop} {Q : Exit → Act → World → Prop} {EE : Prop} (hw : Region.wanted o (yielded ops a.tmps) = true) (W W1 wr : World) (bx : Nat) (s x : Operand) (t : TypeId)
    (ho : o.op = .call { callee := .builtin .append, args := #[s, x], argTypes := #[t, t] })
    (e : TypeId) (i : TypeInfo) (z : Value) (size bytes : Nat) (ht : P.underlying t = some (.slice e)) (hi : P.info? e = some i) (hz : i.zero = some z)
    (hsize : i.size = size) (hby : i.bytes = bytes) (hzs : z.cells.size = size) (hsz : 0 < size)
    (v : Value) (tr : Tr) (n : Nat) (hn : tr.len = n) (hs : a.eval s = v) (hown : RowX W wr e size v tr bx)
    (cs : Array Value) (hW : W1 = wr.alloc (.cells cs e)) (hx : a.eval x = .slice (some ⟨wr.heap.size, 0, none⟩) 1 1) (hl : cs.size = size) (h1 : cs.toList.all Value.oneCell' = true)
    (hn4 : n ≤ 1000000) (hb4 : bytes ≤ 1000) (hB : W.heap.size ≤ wr.heap.size)
    (h : ∀ av' cv' wb, Hid ((wr.alloc (.cells cs e)).grownBy wb v.ownBlock) → K (a.put o.dst (.slice av' (n + 1) cv')) wb) :
    if Region.wanted o (yielded ops a.tmps) = true then Oper.wp P o a W1 K Q else EE := by
  subst hW hn
  rw [if_pos hw]
  obtain ⟨xs, P0, g1, g2, g3, g4⟩ := hown
  have hb0 : Below wr.heap.size wr (wr.alloc (.cells cs e)) := (Below.refl _ _).alloc (Nat.le_refl _) _
  have hbytes : (tr.len + 1) * bytes ≤ 140737488355328 := Nat.le_trans (Nat.mul_le_mul (show tr.len + 1 ≤ 1000001 by omega) hb4) (by decide)
  obtain ⟨v', wb, hr, k1, k2, k3, k4⟩ := run_append_own_at (P := P) (wr.alloc (.cells cs e)) W.heap.size t o.type e i z size bytes ht hi hz hsize hby hzs hsz v tr.len xs (rowOld g1 hb0) ⟨wr.heap.size, 0, none⟩ 1 1 cs.toList (by simpa using hl) (fun j u hj => by rw [Addr.add_at, cell_new]; simpa using hj) (fun u hu => List.all_eq_true.1 h1 u hu) (by unfold maxLen; omega) hbytes (Nat.le_trans hB (by simp))
  obtain ⟨av', cv', rfl⟩ := owns_slice k1
  unfold Oper.wp execOp
  simp only [ho, resolve, invoke, builtin, Sem.run_bind, Sem.run_pure, Result.andThen_ok, List.map_toArray, List.map_cons, List.map_nil, hs, hx, hr]
  exact h av' cv' wb (hid k2)
/-- What comes of a call of cells. -/
def CPostR (bl : Nat) (W : World) (r : Out) (e : Ending) (w' : World) : Prop :=
  Gr W bl w' ∧ match r with
    | .ok t rest => ∃ v, e = .returned v ∧ RepS w' (New W w') t v ∧ LR w' bl rest 0
    | .bad x => ∃ a n c, e = .returned (.slice a n c) ∧ x ≠ 0 ∧ LR w' bl [] x
def BadR (bl : Nat) (W : World) (r : Out) (v : Value) (wr : World) : Prop := ∃ x a n c, Gr W bl wr ∧ LR wr bl [] x ∧ x ≠ 0 ∧ r = .bad x ∧ v = .slice a n c
def GoodR (k bl : Nat) (W : World) (s : Bs) (r : Out) (v : Value) (wr : World) : Prop :=
  ∃ s0 acc r', Gr W bl wr ∧ LR wr bl s0 0 ∧ RowRep W wr 80 3 v acc ∧ PRest (PC k) s0 r' ∧ r = r'.map (acc.app ·) ∧ acc.tot + s0.length ≤ s.length
theorem GoodR.push {k bl : Nat} {W wb : World} {s s3 : Bs} {r r' r3 : Out} {v : Value} {acc u : Tr} (hg : Gr W bl wb) (hl : LR wb bl s3 0) (hrow : RowRep W wb 80 3 v (acc.app u)) (hp : PRest (PC k) s3 r3) (hre : r = r'.map (acc.app ·)) (hr' : r' = r3.map (fun t => u.app t)) (ht : acc.tot + u.tot + s3.length ≤ s.length) : GoodR k bl W s r v wb := by
  refine ⟨s3, acc.app u, r3, hg, hl, hrow, hp, ?_, by rw [Tr.tot_app]; exact ht⟩
  rw [hre, hr', Out.map_map]
  congr 1
  funext t
  rw [Tr.app_assoc]
theorem push_grR {W w5 wb : World} {bl : Nat} {row : Option Nat} {o : Obj} {s3 : Bs} {bad : Int} (hg : Gr W bl w5) (hgb : (w5.alloc o).grownBy wb row) (hr : ∀ k, row = some k → W.heap.size ≤ k) (hbp : bl < W.heap.size) (hl : LR w5 bl s3 bad) : Gr W bl wb ∧ LR wb bl s3 bad := by
  have hb : Below w5.heap.size w5 (w5.alloc o) := (Below.refl _ _).alloc (Nat.le_refl _) _
  refine ⟨(hg.below hb).own hgb hr, ?_⟩
  have hlt := boxLt hl
  exact (hgb.block bl (Nat.lt_of_lt_of_le hlt hb.size) (fun e => by have := hr bl e.symm; omega)).trans ((hb.block bl hlt).trans hl)
/-- Between two ways. -/
def WGood (k bl : Nat) (wa B : World) (bx : Nat) (l : Tr) (s1 : Bs) (rw1 : Out) (wr : World) : Prop :=
  ∃ vw ws s' rw', Gr wa bl wr ∧ B.heap.size ≤ wr.heap.size ∧ LR wr bl s' 0 ∧ RowX B wr 40 1 vw (.way l ws) bx ∧ wr.heap[bx]? = some (.cells #[st [], .bool false, vw] 80 (0, 0)) ∧ PWays (PC k) s' rw' ∧ rw1 = rw'.map (ws.app ·) ∧ ws.tot + s'.length ≤ s1.length
def WBad (bl : Nat) (wa : World) (bx : Nat) (rw1 : Out) (wr : World) : Prop :=
  ∃ x a n c, Gr wa bl wr ∧ LR wr bl [] x ∧ x ≠ 0 ∧ rw1 = .bad x ∧ wr.heap[bx]? = some (.cells #[st [], .bool false, .slice a n c] 80 (0, 0))
theorem box_way {bl bx : Nat} {wa wb : World} {s4 : Bs} {bad : Int} {vw vw' : Value} (hg : Gr wa bl wb) (hbx : wa.heap.size ≤ bx) (hne : bl ≠ bx) (hl : LR wb bl s4 bad) (hb : wb.heap[bx]? = some (.cells #[st [], .bool false, vw] 80 (0, 0))) :
    Gr wa bl (wb.setCell ⟨bx, 2, none⟩ vw') ∧ LR (wb.setCell ⟨bx, 2, none⟩ vw') bl s4 bad ∧ (wb.setCell ⟨bx, 2, none⟩ vw').heap[bx]? = some (.cells #[st [], .bool false, vw'] 80 (0, 0)) ∧ (wb.setCell ⟨bx, 2, none⟩ vw').heap.size = wb.heap.size :=
  ⟨hg.setNew hbx 2 _, (heap_setCell_other _ _ _ _ hne).trans hl, (boxSet hb 2 _).trans (by simp), by simp [World.setCell]⟩
theorem RowX.nil (W w : World) (E sz bx : Nat) : RowX W w E sz (.slice none 0 0) .nil bx := ⟨[], fun _ => False, World.ownsRow_nil _ _ _ _, rfl, fun _ h => h.elim, fun e => by cases e⟩
theorem Tryz.infoRfCell : (Tryz.prog.info? 80).map (fun i => (i.zero, i.size, i.bytes)) = some (some (.agg #[.string ⟨#[]⟩, .bool false, .slice none 0 0]), 3, 48) := by kernel_rfl
theorem Tryz.infoRfCells : (Tryz.prog.info? 40).map (fun i => (i.zero, i.size, i.bytes)) = some (some (.slice none 0 0), 1, 24) := by kernel_rfl
theorem stopR (c : UInt8) (b : Bool) (h : stopB [c] = b) (w : World) (hm : Mx w) : Calls Tryz.prog 44 #[.string ⟨#[124, 93, 40]⟩, st [c]] w fun e w' => e = .returned (.bool b) ∧ w' = w := by
  refine containsR_any _ _ (by decide) b ?_ w hm
  rw [← h]
  show Lib.contains [124, 93, 40] [c] = stopB [c]
  simp only [contains_cons', stopB]
  have e0 : Lib.contains [] [c] = false := rfl
  rw [e0]
  simp only [List.isPrefixOf_cons_cons, List.isPrefixOf_nil_left, Bool.and_true, Bool.or_false]
  rw [Bool.or_assoc]
theorem deepR (bl : Nat) (hbl : bl ≠ 3) (s : Bs) (w : World) (h : LR w bl s 0) : Calls Tryz.prog 16 #[.pointer (some ⟨bl, 0, none⟩), .int .i64 9] w (CPostR bl w (.bad 4)) := by
  have H := hid h
  clear h
  go_enter Tryz.func16, Tryz.ntmps16
  go_upto_region 4 with (go_at_call 18; (with_reducible refine (failsR_any s 0 4 bl w H.out).mono ?_); rintro e w1 ⟨rfl, h1, hg1⟩; have H1 := hid h1; have HG1 := hid hg1; clear h1 hg1)
  go_loopw [5] (fun v wr => v = .slice none 0 0 ∧ LR wr bl [] 4 ∧ Gr w bl wr) (fun _ _ => 0)
  case atStart => exact ⟨rfl, H1.out, HG1.out⟩
  case round =>
    obtain ⟨rfl, hl, hg⟩ := hrel
    have HL := hid hl
    have HG := hid hg
    clear hl hg
    go_wp2_with (go_at_call 19; (with_reducible refine (next_any [] 4 bl wr HL.out).mono ?_); rintro e w2 ⟨rfl, h2, hg2⟩; have H2 := hid h2; have HG2 := hid hg2; clear h2 hg2; rw [show (bk []).take 1 = [] from rfl])
    go_ret
    exact ⟨HG.out.trans' HG2.out, _, _, _, rfl, by decide, H2.out⟩
theorem mk_box {w3 wa : World} {bl : Nat} {s : Bs} (hg : Gr wa bl w3) (hl : LR w3 bl s 0) (hm : Mx w3) : 
    Gr wa bl (w3.alloc (.cells #[.string ⟨#[]⟩, .bool false, .slice none 0 0] 80)) ∧ LR (w3.alloc (.cells #[.string ⟨#[]⟩, .bool false, .slice none 0 0] 80)) bl s 0 ∧ Mx (w3.alloc (.cells #[.string ⟨#[]⟩, .bool false, .slice none 0 0] 80)) ∧
    (w3.alloc (.cells #[.string ⟨#[]⟩, .bool false, .slice none 0 0] 80)).heap[w3.heap.size]? = some (.cells #[st [], .bool false, .slice none 0 0] 80 (0, 0)) ∧ bl ≠ w3.heap.size ∧ wa.heap.size ≤ w3.heap.size := by
  have h0 : Below w3.heap.size w3 (w3.alloc (.cells #[.string ⟨#[]⟩, .bool false, .slice none 0 0] 80)) := (Below.refl _ _).alloc (Nat.le_refl _) _
  have hlt := boxLt hl
  exact ⟨hg.below h0, (h0.block bl hlt).trans hl, hm.below h0, heap_alloc_new w3 _, by omega, hg.size⟩
theorem out_push (r4 : Out) (ws l2 : Tr) : (r4.map (.way l2)).map (ws.app ·) = r4.map ((ws.app (.way l2 .nil)).app ·) := by
  rw [Out.map_map]
  congr 1
  funext t
  rw [Tr.app_assoc]
  rfl
theorem firstBad_ne {x : Int} (h : x ≠ 0) (e : Int) : firstBad x e = x := by unfold firstBad; rw [if_neg h]
theorem box_not {b : Bool} {bl bx : Nat} {wa wb : World} {s4 : Bs} {bad : Int} {vw : Value} (hg : Gr wa bl wb) (hbx : wa.heap.size ≤ bx) (hne : bl ≠ bx) (hl : LR wb bl s4 bad) (hb : wb.heap[bx]? = some (.cells #[st [], .bool false, vw] 80 (0, 0))) :
    Gr wa bl (wb.setCell ⟨bx, 1, none⟩ (.bool b)) ∧ LR (wb.setCell ⟨bx, 1, none⟩ (.bool b)) bl s4 bad ∧ (wb.setCell ⟨bx, 1, none⟩ (.bool b)).heap[bx]? = some (.cells #[st [], .bool b, vw] 80 (0, 0)) ∧ (wb.setCell ⟨bx, 1, none⟩ (.bool b)).heap.size = wb.heap.size :=
  ⟨hg.setNew hbx 1 _, (heap_setCell_other _ _ _ _ hne).trans hl, (boxSet hb 1 _).trans (by simp), by simp [World.setCell]⟩
theorem lead_len0 (u : Bs) (hg : goodName (nmOf u) = true) : 1 + ((nmOf u).length - 1) + (nmRest u).length ≤ u.length ∧ 0 < (nmOf u).length := by
  have h1 : (nmOf u).length + (nmRest u).length = (bk u).length := by
    have := congrArg List.length (List.takeWhile_append_dropWhile (p := isNm) (l := bk u))
    rw [List.length_append] at this
    exact this
  have h2 : 0 < (nmOf u).length := by
    unfold goodName at hg
    cases hn : nmOf u with
    | nil => rw [hn] at hg; simp at hg
    | cons c t => simp
  have h3 := bk_len u
  omega
set_option maxHeartbeats 3200000 in
theorem cellsR_succ (k : Nat) (hk : k ≤ 8) (ih : ∀ s r, PC k s r → ∀ bl, bl ≠ 3 → ∀ w, LR w bl s 0 → Mx w → s.length ≤ 1000000 → Calls Tryz.prog 16 #[.pointer (some ⟨bl, 0, none⟩), .int .i64 (9 - (k : Int))] w (CPostR bl w r))
    (s : Bs) (r : Out) (hp : PC (k + 1) s r) (bl : Nat) (hbl : bl ≠ 3) (w : World) (h : LR w bl s 0) (hkp : Mx w) (hs : s.length ≤ 1000000) :
    Calls Tryz.prog 16 #[.pointer (some ⟨bl, 0, none⟩), .int .i64 (9 - ((k + 1 : Nat) : Int))] w (CPostR bl w r) := by
  have IH := hid ih
  have H := hid h
  have HK := hid hkp
  have HP := hid (show PRest (PC k) s r from hp)
  clear ih h hkp hp
  obtain ⟨d, hd⟩ : ∃ d : Int, 9 - ((k + 1 : Nat) : Int) = d := ⟨_, rfl⟩
  rw [hd]
  have hd0 : 0 ≤ d := by omega
  have hd8 : ¬ (8 : Int) < d := by omega
  have hdw : IntKind.i64.wrap (d + 1) = d + 1 := by
    unfold IntKind.wrap
    simp [IntKind.bits, IntKind.signed]
    omega
  have HD := hid (show 9 - (k : Int) = d + 1 by omega)
  rw [HD.out] at IH
  clear hd
  have hblw := boxLt H.out
  go_enter Tryz.func16, Tryz.ntmps16
  go_upto_region 4 with fail
  go_loopw [5] (fun v wr => GoodR k bl w s r v wr ∨ BadR bl w r v wr) (fun _ wr => leftR bl wr)
  case atStart =>
    exact .inl ⟨s, .nil, r, Gr.of w bl, H.out, RowRep.nil _ _ _ _, HP.out, (Out.map_id r _ (fun t => rfl)).symm, by simp [Tr.tot]⟩
  case round =>
    rename World => wa
    rcases hrel with ⟨s0, acc, r', hgr, hl, hrow, hpr, hre, htot⟩ | ⟨x, a0, n0, c0, hgr, hl, hx, hre, rfl⟩
    · have HGR := hid hgr
      have HMA := hid (HK.out.gr hgr hbl)
      have HL := hid hl
      have HROW := hid hrow
      have HRE := hid hre
      have hlt := boxLt hl
      clear hgr hl hrow hre
      cases hb : bk s0 with
      | nil =>
        have HB := hid hb
        have HEND : Hid (∀ w', Gr wa bl w' → LR w' bl (bk s0) 0 → RowRep w w' 80 3 u5 acc → CPostR bl w r (.returned u5) w') := hid (by
          intro w' hg hl hr
          rw [HRE.out, hpr.stop (by rw [hb]; rfl)]
          exact ⟨HGR.out.trans' hg, u5, rfl, by simpa only [Tr.app_nil] using hr.slice, hl⟩)
        clear hb hpr
        go_wp2_with (go_at_call 19; (with_reducible refine (next_any s0 0 bl wa HL.out).mono ?_); rintro e w2 ⟨rfl, h2, hg2⟩; have H2 := hid h2; have HG2 := hid hg2; clear h2 hg2; rw [HB.out, show ([] : Bs).take 1 = [] from rfl])
        go_ret
        exact HEND.out _ HG2.out H2.out (HROW.out.grown HG2.out hblw)
      | cons c t =>
        have hb1 : (bk s0).take 1 = [c] := by rw [hb]; rfl
        have hb2 : (bk (bk s0)).take 1 = [c] := by rw [bk_bk, hb]; rfl
        have HB1 := hid hb1
        have HB2 := hid hb2
        clear hb1 hb2
        cases hst : stopB [c] with
        | true =>
          have HEND : Hid (∀ w', Gr wa bl w' → LR w' bl (bk s0) 0 → RowRep w w' 80 3 u5 acc → CPostR bl w r (.returned u5) w') := hid (by
            intro w' hg hl hr
            rw [HRE.out, hpr.stop (by rw [hb]; exact hst)]
            exact ⟨HGR.out.trans' hg, u5, rfl, by simpa only [Tr.app_nil] using hr.slice, hl⟩)
          have HST := hid hst
          clear hb hpr hst
          go_wp2_with (first
            | (go_at_call 19; (with_reducible refine (next_any s0 0 bl wa HL.out).mono ?_); rintro e w2 ⟨rfl, h2, hg2⟩; have H2 := hid h2; have HG2 := hid hg2; clear h2 hg2; rw [HB1.out])
            | (go_at_call 19; (with_reducible refine (next_any (bk s0) 0 bl w2 H2.out).mono ?_); rintro e w3 ⟨rfl, h3, hg3⟩; rw [bk_bk] at h3; have H3 := hid h3; have HG3 := hid (HG2.out.trans' hg3); have HM3 := hid (HMA.out.gr HG3.out hbl); clear h3 hg3; rw [HB2.out])
            | (go_at_call 44; (with_reducible refine (stopR c true HST.out w3 HM3.out).mono ?_); rintro e w4 ⟨rfl, hw⟩; subst w4))
          go_ret
          exact HEND.out _ HG3.out H3.out (HROW.out.grown HG3.out hblw)
        | false =>
          have hlen : t.length + 1 ≤ s0.length := by have := bk_len s0; rw [hb] at this; simpa using this
          have hbb : bk (bk s0) = c :: t := by rw [bk_bk, hb]
          have HST := hid hst
          go_upto_region 6 with (first
            | (go_at_call 19; (with_reducible refine (next_any s0 0 bl wa HL.out).mono ?_); rintro e w2 ⟨rfl, h2, hg2⟩; have H2 := hid h2; have HG2 := hid hg2; clear h2 hg2; rw [HB1.out])
            | (go_at_call 19; (with_reducible refine (next_any (bk s0) 0 bl w2 H2.out).mono ?_); rintro e w3 ⟨rfl, h3, hg3⟩; rw [bk_bk] at h3; have H3 := hid h3; have HG3 := hid (HG2.out.trans' hg3); have HM3 := hid (HMA.out.gr HG3.out hbl); clear h3 hg3; rw [HB2.out])
            | (go_at_call 44; (with_reducible refine (stopR c false HST.out w3 HM3.out).mono ?_); rintro e w4 ⟨rfl, hw⟩; subst w4))
          obtain ⟨k1, k2, k3, k4, k5, k6⟩ := mk_box HG3.out H3.out HM3.out
          obtain ⟨bx, hbx⟩ : ∃ bx, w3.heap.size = bx := ⟨_, rfl⟩
          rw [hbx] at k4 k5 k6
          rw [hbx]
          generalize w3.alloc (Obj.cells #[.string ⟨#[]⟩, .bool false, .slice none 0 0] 80) = wc at k1 k2 k3 k4 ⊢
          rw [hb] at k2
          have HG4 := hid k1
          have H4 := hid k2
          have HM4 := hid k3
          have HX4 := hid k4
          have hblx : bl ≠ bx := k5
          have hwabx : wa.heap.size ≤ bx := k6
          have hblwa : bl < wa.heap.size := hlt
          have hs0pos : ([] : Bs).length < s0.length := by simp; omega
          have hacc : acc.len ≤ 1000000 := by have := acc.len_tot; omega
          clear k1 k2 k3 k4 k5 k6 hbx H2 HG2 H3 HG3 HM3 HB1 HB2 HST
          have hc32 : bk (c :: t) = c :: t := by rw [← hb, bk_bk]
          by_cases h91 : c = 91
          · subst h91
            have HC := hid hc32
            have HT := hid (show t.length ≤ 1000000 by omega)
            rcases hpr.brack hb with ⟨e0, hsub, rfl⟩ | ⟨l, s1, rw1, hsub, hways, haft⟩
            · have HS := hid hsub
              clear hsub hb hbb hpr hc32 hst hlen
              go_upto_region 7 with (go_at_call 17; (with_reducible refine (takeR_yes (91 :: t) t 0 91 HC.out bl wc H4.out).mono ?_); rintro e w5 ⟨rfl, h5, hg5⟩; have H5 := hid h5; have HGS := hid (HG4.out.trans' hg5); have HX5 := hid (hg5.at' HX4.out hblx); have HM5 := hid (HM4.out.gr hg5 hbl); clear h5 hg5)
              have c2 : w5.cell? ⟨bx, 2, none⟩ = some (.slice none 0 0) := (cell_block HX5.out 2).trans rfl
              have hwaB : wa.heap.size ≤ w5.heap.size := HGS.out.size
              have hblB : bl < w5.heap.size := Nat.lt_of_lt_of_le hblwa hwaB
              have hBs : w5.heap.size ≤ w5.heap.size := Nat.le_refl _
              have hlenw : 0 ≤ 1000000 := by decide
              refine wpEnds.begin (fun w' => w'.cell? ⟨bx, 2, none⟩ = some (.slice none 0 0)) 9 (by kernel_rfl) c2 (fun hHeld => ?_)
              have a0HD := hid (show LR w5.drew bl t 0 from H5.out)
              have a0HMD := hid (show Mx w5.drew from HM5.out)
              have a0HXD := hid (show w5.drew.heap[bx]? = some (.cells #[st [], .bool false, .slice none 0 0] 80 (0, 0)) from HX5.out)
              obtain ⟨i1, hi1, hy0, hy1, hy2⟩ := info_parts Tryz.infoRfCells
              refine wpEnds.take 0 10 (v := ?va00) rfl (by kernel_rfl) (by kernel_rfl) (by kernel_rfl) (by kernel_rfl) (by kernel_rfl) (fun _ _ _ h => h) (by kernel_rfl) hHeld (fun w' hSw => ?hya00) ?resta00
              case hya00 => ((try dsimp only at hSw); go_simp; try with_reducible rfl)
              case resta00 =>
              (try simp only [Act.put, List.setIfInBounds_toArray, List.set_cons_zero, List.set_cons_succ])
              refine wpEnds.take 1 10 (v := ?va01) rfl (by kernel_rfl) (by kernel_rfl) (by kernel_rfl) (by kernel_rfl) (by kernel_rfl) (fun _ _ _ h => h) (by kernel_rfl) hHeld (fun w' hSw => ?hya01) ?resta01
              case hya01 => ((try dsimp only at hSw); go_simp; try with_reducible rfl)
              case resta01 =>
              (try simp only [Act.put, List.setIfInBounds_toArray, List.set_cons_zero, List.set_cons_succ])
              refine wpEnds.take 2 10 (v := ?va02) rfl (by kernel_rfl) (by kernel_rfl) (by kernel_rfl) (by kernel_rfl) (by kernel_rfl) (fun _ _ _ h => h) (by kernel_rfl) hHeld (fun w' hSw => ?hya02) ?resta02
              case hya02 => ((try dsimp only at hSw); go_simp; try with_reducible rfl)
              case resta02 =>
              (try simp only [Act.put, List.setIfInBounds_toArray, List.set_cons_zero, List.set_cons_succ])
              refine wpEnds.take 3 10 (v := ?va03) rfl (by kernel_rfl) (by kernel_rfl) (by kernel_rfl) (by kernel_rfl) (by kernel_rfl) (fun _ _ _ h => h) (by kernel_rfl) hHeld (fun w' hSw => ?hya03) ?resta03
              case hya03 => ((try dsimp only at hSw); go_simp; try with_reducible rfl)
              case resta03 =>
              (try simp only [Act.put, List.setIfInBounds_toArray, List.set_cons_zero, List.set_cons_succ])
              refine wpEnds.take 4 10 (v := ?va04) rfl (by kernel_rfl) (by kernel_rfl) (by kernel_rfl) (by kernel_rfl) (by kernel_rfl) (fun _ _ _ h => h) (by kernel_rfl) hHeld (fun w' hSw => ?hya04) ?resta04
              case hya04 => ((try dsimp only at hSw); go_simp; try with_reducible rfl)
              case resta04 =>
              (try simp only [Act.put, List.setIfInBounds_toArray, List.set_cons_zero, List.set_cons_succ])
              refine wpEnds.one 5 (by kernel_rfl) rfl (fun K hK => ?_)
              go_simp
              (with_reducible refine (IH.out t _ HS.out bl hbl w5.drew a0HD.out a0HMD.out HT.out).mono ?_)
              rintro e w9 ⟨hg9, a2, n2, q2, rfl, hx9, hl9⟩
              have HXN := hid hx9
              have HG9 := hid ((Gr.of w5 bl).drew.trans' hg9)
              have HX9 := hid (hg9.at' a0HXD.out hblx)
              have HL9 := hid hl9
              have hsz9 : bx < w9.heap.size := boxLt HX9.out
              have c9 : w9.cell? ⟨bx, 2, none⟩ = some (.slice none 0 0) := (cell_block HX9.out 2).trans rfl
              have c10 : (w9.alloc (.cells #[.slice a2 n2 q2] 40)).cell? ⟨bx, 2, none⟩ = some (.slice none 0 0) := (((Below.refl _ _).alloc (Nat.le_refl _) _).cell hsz9).trans c9
              have HR9 := hid (show RowX w5 w9 40 1 (.slice none 0 0) (.nil) bx from (RowX.nil w5 w5 40 1 bx).grown HG9.out hblB)
              clear hg9 hl9
              refine hK.out _ _ c9 ?_
              clear hK K
              (try simp only [Act.put, List.setIfInBounds_toArray, List.set_cons_zero, List.set_cons_succ])
              refine wpEnds.one 6 (by kernel_rfl) rfl (fun K hK => ?_)
              go_simp
              refine hK.out _ _ c10 ?_
              clear hK K
              (try simp only [Act.put, List.setIfInBounds_toArray, List.set_cons_zero, List.set_cons_succ])
              refine wpEnds.one 7 (by kernel_rfl) rfl (fun K hK => ?_)
              refine ldAny_held (by rfl) w5 _ w9 bx _ _ 78 (by rfl) 40 i1 _ 1 24 Tryz.underlying78 hi1 hy0 hy1 hy2 (by rfl) (by decide) (.slice none 0 0) (.nil) 0 rfl (by rfl) HR9.out #[.slice a2 n2 q2] rfl (by rfl) (by rfl) (by rfl) hlenw (by decide) (Nat.le_trans hBs HG9.out.size) ?_
              intro av cv wb HGB
              have HBX2 := hid (boxOld HGB.out HX9.out (HR9.out.apart HX9.out (by decide)))
              have cb : wb.cell? ⟨bx, 2, none⟩ = some (.slice none 0 0) := (cell_block HBX2.out 2).trans rfl
              have hbfr := free_block HBX2.out
              have hblt := boxLt HBX2.out
              have HP6 := hid (push_grR (HGS.out.trans' HG9.out) HGB.out (fun k hk => Nat.le_trans hwaB (HR9.out.lt k hk).1) hblwa HL9.out)
              have HSB := hid (Nat.le_trans hBs (Nat.le_trans HG9.out.size (Nat.le_trans (show w9.heap.size ≤ (w9.alloc (.cells #[.slice a2 n2 q2] 40)).heap.size by simp) HGB.out.size)))
              clear HGB
              refine hK.out _ _ cb ?_
              clear hK K
              (try simp only [Act.put, List.setIfInBounds_toArray, List.set_cons_zero, List.set_cons_succ])
              refine wpEnds.take 8 10 (v := ?va08) rfl (by kernel_rfl) (by kernel_rfl) (by kernel_rfl) (by kernel_rfl) (by kernel_rfl) (fun _ _ _ h => h) (by kernel_rfl) cb (fun w' hSw => ?hya08) ?resta08
              case hya08 => ((try dsimp only at hSw); go_simp; try with_reducible rfl)
              case resta08 =>
              (try simp only [Act.put, List.setIfInBounds_toArray, List.set_cons_zero, List.set_cons_succ])
              refine wpEnds.last 9 (by kernel_rfl) (by kernel_rfl) rfl (fun K hK => ?_)
              go_simp
              refine hK.out _ _ ?_
              clear hK K
              (try simp only [Act.put, List.setIfInBounds_toArray, List.set_cons_zero, List.set_cons_succ])
              have HBW := hid (box_way (vw' := .slice av (0 + 1) cv) HP6.out.1 hwabx hblx HP6.out.2 HBX2.out)
              go_wp2_with fail
              go_loopw [] (fun wx => WBad bl wa bx (.bad e0) wx) (fun wx => leftR bl wx)
              case atStart => exact ⟨e0, _, _, _, HBW.out.1, HBW.out.2.1, HXN.out, rfl, HBW.out.2.2.1⟩
              case round =>
                rename World => wi
                obtain ⟨x9, a9, n9, q9, jg, jl, jx, je, jb⟩ := hrel
                cases je
                have JG := hid jg
                have JL := hid jl
                have JX := hid jx
                have JB := hid jb
                clear jg jl jx jb
                have HN1 : Hid ((bk []).head? ≠ some 124) := hid (by simp [bk, Lib.trimLeftB])
                have HN2 : Hid ((bk (bk [])).head? ≠ some 93) := hid (by simp [bk, Lib.trimLeftB])
                go_upto_region 14 with (first
                  | (go_at_call 17; (with_reducible refine (takeR_no [] e0 124 HN1.out bl wi JL.out).mono ?_); rintro e w6 ⟨rfl, h6, hg6⟩; have H6 := hid h6; have HG6 := hid (JG.out.trans' hg6); have HX6 := hid (hg6.at' JB.out hblx); clear h6 hg6)
                  | (go_at_call 17; (with_reducible refine (takeR_no (bk []) e0 93 HN2.out bl w6 H6.out).mono ?_); rintro e w7 ⟨rfl, h7, hg7⟩; have H7 := hid h7; have HG7 := hid (HG6.out.trans' hg7); have HX7 := hid (hg7.at' HX6.out hblx); clear h7 hg7)
                  | (go_at_call 18; (with_reducible refine (failsR_any (bk (bk [])) e0 3 bl w7 H7.out).mono ?_); rintro e w8 ⟨rfl, h8, hg8⟩; have H8 := hid h8; have HG8 := hid (HG7.out.trans' hg8); have HX8 := hid (hg8.at' HX7.out hblx); clear h8 hg8))
                rw [firstBad_ne JX.out] at H8
                have cx0 : w8.cell? ⟨bx, 0, none⟩ = some (st []) := (cell_block HX8.out 0).trans rfl
                have cx1 : w8.cell? ⟨bx, 1, none⟩ = some (.bool false) := (cell_block HX8.out 1).trans rfl
                have cx2 : w8.cell? ⟨bx, 2, none⟩ = some (.slice a9 n9 q9) := (cell_block HX8.out 2).trans rfl
                have hlx := boxLt HX8.out
                have HROW8 := hid (HROW.out.grown HG8.out hblw)
                have HGW8 := hid (HGR.out.trans' HG8.out)
                obtain ⟨i0, hi, hz0, hz1, hz2⟩ := info_parts Tryz.infoRfCell
                go_wp2_with (at_builtin; refine ldAny w _ w8 rfl _ _ 40 rfl 80 i0 _ 3 48 Tryz.underlying40 hi hz0 hz1 hz2 rfl (by decide) u5 acc acc.len rfl rfl HROW8.out _ rfl rfl rfl rfl hacc (by decide) HGW8.out.size ?_; intro av cv wb HGB; have HP9 := hid (push_grR HGW8.out HGB.out (fun k hk => (HROW.out.lt k hk).1) hblw H8.out); clear HGB)
                go_roundw
                case rel => exact .inr ⟨_, _, _, _, HP9.out.1, HP9.out.2, JX.out, by rw [HRE.out]; rfl, rfl⟩
                case measure =>
                  rw [leftR_is HP9.out.2, leftR_is HL.out]
                  exact hs0pos
            · have HS := hid hsub
              have HW := hid hways
              have HA := hid haft
              have hsh := PC.shrinks k _ _ _ hsub
              clear hsub hways haft hb hbb hpr hc32 hst
              go_upto_region 7 with (go_at_call 17; (with_reducible refine (takeR_yes (91 :: t) t 0 91 HC.out bl wc H4.out).mono ?_); rintro e w5 ⟨rfl, h5, hg5⟩; have H5 := hid h5; have HGS := hid (HG4.out.trans' hg5); have HX5 := hid (hg5.at' HX4.out hblx); have HM5 := hid (HM4.out.gr hg5 hbl); clear h5 hg5)
              have c2 : w5.cell? ⟨bx, 2, none⟩ = some (.slice none 0 0) := (cell_block HX5.out 2).trans rfl
              have hwaB : wa.heap.size ≤ w5.heap.size := HGS.out.size
              have hblB : bl < w5.heap.size := Nat.lt_of_lt_of_le hblwa hwaB
              have hBs : w5.heap.size ≤ w5.heap.size := Nat.le_refl _
              have hBB : w5.heap.size ≤ w5.heap.size := Nat.le_refl _
              have hlenw : 0 ≤ 1000000 := by decide
              have hbxs : bx < w5.heap.size := boxLt HX5.out
              have HR0 := hid (RowX.nil w5 w5 40 1 bx)
              refine wpEnds.begin (fun w' => w'.cell? ⟨bx, 2, none⟩ = some (.slice none 0 0)) 9 (by kernel_rfl) c2 (fun hHeld => ?_)
              have b0HD := hid (show LR w5.drew bl t 0 from H5.out)
              have b0HMD := hid (show Mx w5.drew from HM5.out)
              have b0HXD := hid (show w5.drew.heap[bx]? = some (.cells #[st [], .bool false, .slice none 0 0] 80 (0, 0)) from HX5.out)
              obtain ⟨i1, hi1, hy0, hy1, hy2⟩ := info_parts Tryz.infoRfCells
              refine wpEnds.take 0 10 (v := ?vb00) rfl (by kernel_rfl) (by kernel_rfl) (by kernel_rfl) (by kernel_rfl) (by kernel_rfl) (fun _ _ _ h => h) (by kernel_rfl) hHeld (fun w' hSw => ?hyb00) ?restb00
              case hyb00 => ((try dsimp only at hSw); go_simp; try with_reducible rfl)
              case restb00 =>
              (try simp only [Act.put, List.setIfInBounds_toArray, List.set_cons_zero, List.set_cons_succ])
              refine wpEnds.take 1 10 (v := ?vb01) rfl (by kernel_rfl) (by kernel_rfl) (by kernel_rfl) (by kernel_rfl) (by kernel_rfl) (fun _ _ _ h => h) (by kernel_rfl) hHeld (fun w' hSw => ?hyb01) ?restb01
              case hyb01 => ((try dsimp only at hSw); go_simp; try with_reducible rfl)
              case restb01 =>
              (try simp only [Act.put, List.setIfInBounds_toArray, List.set_cons_zero, List.set_cons_succ])
              refine wpEnds.take 2 10 (v := ?vb02) rfl (by kernel_rfl) (by kernel_rfl) (by kernel_rfl) (by kernel_rfl) (by kernel_rfl) (fun _ _ _ h => h) (by kernel_rfl) hHeld (fun w' hSw => ?hyb02) ?restb02
              case hyb02 => ((try dsimp only at hSw); go_simp; try with_reducible rfl)
              case restb02 =>
              (try simp only [Act.put, List.setIfInBounds_toArray, List.set_cons_zero, List.set_cons_succ])
              refine wpEnds.take 3 10 (v := ?vb03) rfl (by kernel_rfl) (by kernel_rfl) (by kernel_rfl) (by kernel_rfl) (by kernel_rfl) (fun _ _ _ h => h) (by kernel_rfl) hHeld (fun w' hSw => ?hyb03) ?restb03
              case hyb03 => ((try dsimp only at hSw); go_simp; try with_reducible rfl)
              case restb03 =>
              (try simp only [Act.put, List.setIfInBounds_toArray, List.set_cons_zero, List.set_cons_succ])
              refine wpEnds.take 4 10 (v := ?vb04) rfl (by kernel_rfl) (by kernel_rfl) (by kernel_rfl) (by kernel_rfl) (by kernel_rfl) (fun _ _ _ h => h) (by kernel_rfl) hHeld (fun w' hSw => ?hyb04) ?restb04
              case hyb04 => ((try dsimp only at hSw); go_simp; try with_reducible rfl)
              case restb04 =>
              (try simp only [Act.put, List.setIfInBounds_toArray, List.set_cons_zero, List.set_cons_succ])
              refine wpEnds.one 5 (by kernel_rfl) rfl (fun K hK => ?_)
              go_simp
              (with_reducible refine (IH.out t _ HS.out bl hbl w5.drew b0HD.out b0HMD.out HT.out).mono ?_)
              rintro e w9 ⟨hg9, v2, rfl, hv2, hl9⟩
              obtain ⟨a2, q2, rfl⟩ := hv2.form
              have HV2 := hid hv2
              clear hv2
              have HG9 := hid ((Gr.of w5 bl).drew.trans' hg9)
              have HX9 := hid (hg9.at' b0HXD.out hblx)
              have HL9 := hid hl9
              have hsz9 : bx < w9.heap.size := boxLt HX9.out
              have c9 : w9.cell? ⟨bx, 2, none⟩ = some (.slice none 0 0) := (cell_block HX9.out 2).trans rfl
              have c10 : (w9.alloc (.cells #[.slice a2 l.len q2] 40)).cell? ⟨bx, 2, none⟩ = some (.slice none 0 0) := (((Below.refl _ _).alloc (Nat.le_refl _) _).cell hsz9).trans c9
              have HR9 := hid (show RowX w5 w9 40 1 (.slice none 0 0) (.nil) bx from (HR0.out).grown HG9.out hblB)
              clear hg9 hl9
              refine hK.out _ _ c9 ?_
              clear hK K
              (try simp only [Act.put, List.setIfInBounds_toArray, List.set_cons_zero, List.set_cons_succ])
              refine wpEnds.one 6 (by kernel_rfl) rfl (fun K hK => ?_)
              go_simp
              refine hK.out _ _ c10 ?_
              clear hK K
              (try simp only [Act.put, List.setIfInBounds_toArray, List.set_cons_zero, List.set_cons_succ])
              refine wpEnds.one 7 (by kernel_rfl) rfl (fun K hK => ?_)
              refine ldPush_held (by rfl) w5 _ w9 bx _ _ 78 (by rfl) 40 i1 _ 1 24 Tryz.underlying78 hi1 hy0 hy1 hy2 (by rfl) (by decide) (.slice none 0 0) (.nil) (.way l .nil) 0 rfl (by rfl) HR9.out #[.slice a2 l.len q2] rfl (by rfl) (by rfl) (by rfl) rfl (HV2.out.way (HR0.out.new hBB (Nat.le_refl _) hbxs)) hlenw (by decide) (Nat.le_trans hBs HG9.out.size) hsz9 ?_
              intro av cv wb HRX HGB
              have HBX2 := hid (boxOld HGB.out HX9.out (HR9.out.apart HX9.out (by decide)))
              have cb : wb.cell? ⟨bx, 2, none⟩ = some (.slice none 0 0) := (cell_block HBX2.out 2).trans rfl
              have hbfr := free_block HBX2.out
              have hblt := boxLt HBX2.out
              have HP6 := hid (push_grR (HGS.out.trans' HG9.out) HGB.out (fun k hk => Nat.le_trans hwaB (HR9.out.lt k hk).1) hblwa HL9.out)
              have HSB := hid (Nat.le_trans hBs (Nat.le_trans HG9.out.size (Nat.le_trans (show w9.heap.size ≤ (w9.alloc (.cells #[.slice a2 l.len q2] 40)).heap.size by simp) HGB.out.size)))
              clear HGB
              refine hK.out _ _ cb ?_
              clear hK K
              (try simp only [Act.put, List.setIfInBounds_toArray, List.set_cons_zero, List.set_cons_succ])
              refine wpEnds.take 8 10 (v := ?vb08) rfl (by kernel_rfl) (by kernel_rfl) (by kernel_rfl) (by kernel_rfl) (by kernel_rfl) (fun _ _ _ h => h) (by kernel_rfl) cb (fun w' hSw => ?hyb08) ?restb08
              case hyb08 => ((try dsimp only at hSw); go_simp; try with_reducible rfl)
              case restb08 =>
              (try simp only [Act.put, List.setIfInBounds_toArray, List.set_cons_zero, List.set_cons_succ])
              refine wpEnds.last 9 (by kernel_rfl) (by kernel_rfl) rfl (fun K hK => ?_)
              go_simp
              refine hK.out _ _ ?_
              clear hK K
              (try simp only [Act.put, List.setIfInBounds_toArray, List.set_cons_zero, List.set_cons_succ])
              have HBW := hid (box_way (vw' := .slice av (0 + 1) cv) HP6.out.1 hwabx hblx HP6.out.2 HBX2.out)
              go_wp2_with fail
              go_loopw [] (fun wx => WGood k bl wa w5 bx l s1 rw1 wx ∨ WBad bl wa bx rw1 wx) (fun wx => leftR bl wx)
              case atStart => exact .inl ⟨_, .nil, s1, rw1, HBW.out.1, by rw [HBW.out.2.2.2]; exact HSB.out, HBW.out.2.1, HRX.out.set 2 _, HBW.out.2.2.1, HW.out, (Out.map_id _ _ fun t => rfl).symm, by simp [Tr.tot]⟩
              case round =>
                rename World => wi
                clear HX5 H5 HM5 c2 hBs hlenw hbxs HR0 HBW HRX HSB HP6 HBX2 cb hbfr hblt HV2 HG9 HX9 HL9 hsz9 c9 c10 HR9 hHeld b0HD b0HMD b0HXD
                rcases hrel with ⟨vw, ws, s', rw', jg, jz, jl, jr, jb, jw, je, jt⟩ | ⟨x9, a9, n9, q9, jg, jl, jx, je, jb⟩
                · obtain ⟨aw, qw, rfl⟩ := jr.form
                  have HGS2 := hid jg
                  have JL := hid jl
                  have JR := hid jr
                  have JB := hid jb
                  have JE := hid je
                  have JZ := hid jz
                  have JM := hid (HK.out.gr (HGR.out.trans' jg) hbl)
                  have hbxi := boxLt jb
                  clear jg jl jr jb je jz
                  rcases jw.inv with ⟨hne, rfl⟩ | ⟨t2, hb2, hsub2⟩
                  · have HNE := hid hne
                    have ha : Aft (PC k) l (.ok ws (bk s')) r' := by
                      have h := HA.out
                      rw [JE.out] at h
                      simpa only [Out.map, Tr.app_nil] using h
                    clear hne jw
                    rcases ha with ⟨hne3, rfl⟩ | ⟨s3, r3, hb3, hr3, rfl⟩
                    · have HNE3 := hid hne3
                      clear hne3
                      go_upto_region 14 with (first
                        | (go_at_call 17; (with_reducible refine (takeR_no s' 0 124 HNE.out bl wi JL.out).mono ?_); rintro e w6 ⟨rfl, h6, hg6⟩; have H6 := hid h6; have HG6 := hid (HGS2.out.trans' hg6); have HX6 := hid (hg6.at' JB.out hblx); clear h6 hg6)
                        | (go_at_call 17; (with_reducible refine (takeR_no (bk s') 0 93 HNE3.out bl w6 H6.out).mono ?_); rintro e w7 ⟨rfl, h7, hg7⟩; have H7 := hid h7; have HG7 := hid (HG6.out.trans' hg7); have HX7 := hid (hg7.at' HX6.out hblx); clear h7 hg7)
                        | (go_at_call 18; (with_reducible refine (failsR_any (bk (bk s')) 0 3 bl w7 H7.out).mono ?_); rintro e w8 ⟨rfl, h8, hg8⟩; have H8 := hid h8; have HG8 := hid (HG7.out.trans' hg8); have HX8 := hid (hg8.at' HX7.out hblx); clear h8 hg8))
                      have cx0 : w8.cell? ⟨bx, 0, none⟩ = some (st []) := (cell_block HX8.out 0).trans rfl
                      have cx1 : w8.cell? ⟨bx, 1, none⟩ = some (.bool false) := (cell_block HX8.out 1).trans rfl
                      have cx2 : w8.cell? ⟨bx, 2, none⟩ = some (.slice aw (Tr.way l ws).len qw) := (cell_block HX8.out 2).trans rfl
                      have hlx := boxLt HX8.out
                      have HROW8 := hid (HROW.out.grown HG8.out hblw)
                      have HGW8 := hid (HGR.out.trans' HG8.out)
                      obtain ⟨i0, hi, hz0, hz1, hz2⟩ := info_parts Tryz.infoRfCell
                      go_wp2_with (at_builtin; refine ldAny w _ w8 rfl _ _ 40 rfl 80 i0 _ 3 48 Tryz.underlying40 hi hz0 hz1 hz2 rfl (by decide) u5 acc acc.len rfl rfl HROW8.out _ rfl rfl rfl rfl hacc (by decide) HGW8.out.size ?_; intro av cv wb HGB; have HP9 := hid (push_grR HGW8.out HGB.out (fun k hk => (HROW.out.lt k hk).1) hblw H8.out); clear HGB)
                      go_roundw
                      case rel => exact .inr ⟨_, _, _, _, HP9.out.1, HP9.out.2, by decide, by rw [HRE.out]; rfl, rfl⟩
                      case measure =>
                        rw [leftR_is HP9.out.2, leftR_is HL.out]
                        exact hs0pos
                    · have HB3 := hid hb3
                      have HR3 := hid hr3
                      have hl3 : s3.length + 1 ≤ s'.length := by
                        have h1 := bk_len s'
                        have h2 := bk_len (bk s')
                        rw [hb3] at h2
                        simp at h2
                        omega
                      have hTOT := hid (show acc.tot + (Tr.many (.way l ws) .nil).tot + s3.length ≤ s.length ∧ s3.length < s0.length by simp [Tr.tot]; omega)
                      clear hb3 hr3 hl3
                      go_upto_region 14 with (first
                        | (go_at_call 17; (with_reducible refine (takeR_no s' 0 124 HNE.out bl wi JL.out).mono ?_); rintro e w6 ⟨rfl, h6, hg6⟩; have H6 := hid h6; have HG6 := hid hg6; clear h6 hg6)
                        | (go_at_call 17; (with_reducible refine (takeR_yes (bk s') s3 0 93 HB3.out bl w6 H6.out).mono ?_); rintro e w7 ⟨rfl, h7, hg7⟩; have H7 := hid h7; have HG7 := hid (HG6.out.trans' hg7); clear h7 hg7))
                      have HX7 := hid (HG7.out.at' JB.out hblx)
                      have cx0 : w7.cell? ⟨bx, 0, none⟩ = some (st []) := (cell_block HX7.out 0).trans rfl
                      have cx1 : w7.cell? ⟨bx, 1, none⟩ = some (.bool false) := (cell_block HX7.out 1).trans rfl
                      have cx2 : w7.cell? ⟨bx, 2, none⟩ = some (.slice aw (Tr.way l ws).len qw) := (cell_block HX7.out 2).trans rfl
                      have hlx := boxLt HX7.out
                      have HROW8 := hid (HROW.out.grown (HGS2.out.trans' HG7.out) hblw)
                      have HGW8 := hid (HGR.out.trans' (HGS2.out.trans' HG7.out))
                      have HU5 := hid ((JR.out.grown HG7.out hblB).rep.slice)
                      have hwB : w.heap.size ≤ w5.heap.size := Nat.le_trans HGR.out.size hwaB
                      obtain ⟨i0, hi, hz0, hz1, hz2⟩ := info_parts Tryz.infoRfCell
                      go_wp2_with (at_builtin; refine ldPush w _ w7 rfl _ _ 40 rfl 80 i0 _ 3 48 Tryz.underlying40 hi hz0 hz1 hz2 rfl (by decide) u5 acc (.many (.way l ws) .nil) acc.len rfl rfl HROW8.out _ rfl rfl rfl rfl rfl (HU5.out.many (HROW.out.new hwB hwaB)) hacc (by decide) HGW8.out.size ?_; intro av cv wb HRW HGB; have HP9 := hid (push_grR HGW8.out HGB.out (fun k hk => (HROW.out.lt k hk).1) hblw H7.out); clear HGB)
                      go_roundw
                      case rel => exact .inl (GoodR.push HP9.out.1 HP9.out.2 HRW.out HR3.out HRE.out rfl hTOT.out.1)
                      case measure =>
                        rw [leftR_is HP9.out.2, leftR_is HL.out]
                        exact hTOT.out.2
                  · have HB2 := hid hb2
                    have ht2 : t2.length + 1 ≤ s'.length := by
                      have h1 := bk_len s'
                      rw [hb2] at h1
                      simpa using h1
                    have HT2 := hid (show t2.length ≤ 1000000 by omega)
                    have hs'pos : ([] : Bs).length < s'.length := by simp; omega
                    have hlenw : (Tr.way l ws).len ≤ 1000000 := by
                      have h1 := ws.len_tot
                      simp only [Tr.len]
                      omega
                    clear hb2 jw
                    rcases hsub2 with ⟨e0, hs2, rfl⟩ | ⟨l2, s4, r4, hs2, hw4, rfl⟩
                    · have HS2 := hid hs2
                      clear hs2
                      go_upto_region 9 with (go_at_call 17; (with_reducible refine (takeR_yes s' t2 0 124 HB2.out bl wi JL.out).mono ?_); rintro e w6 ⟨rfl, h6, hg6⟩; have H6 := hid h6; have HG6 := hid hg6; have HGS := hid (HGS2.out.trans' hg6); have HX6 := hid (hg6.at' JB.out hblx); have HM6 := hid (JM.out.gr hg6 hbl); clear h6 hg6)
                      have c2 : w6.cell? ⟨bx, 2, none⟩ = some (.slice aw (Tr.way l ws).len qw) := (cell_block HX6.out 2).trans rfl
                      have hBs : w5.heap.size ≤ w6.heap.size := Nat.le_trans JZ.out HG6.out.size
                      have HR0 := hid (JR.out.grown HG6.out hblB)
                      refine wpEnds.begin (fun w' => w'.cell? ⟨bx, 2, none⟩ = some (.slice aw (Tr.way l ws).len qw)) 9 (by kernel_rfl) c2 (fun hHeld => ?_)
                      have c0HD := hid (show LR w6.drew bl t2 0 from H6.out)
                      have c0HMD := hid (show Mx w6.drew from HM6.out)
                      have c0HXD := hid (show w6.drew.heap[bx]? = some (.cells #[st [], .bool false, .slice aw (Tr.way l ws).len qw] 80 (0, 0)) from HX6.out)
                      obtain ⟨i1, hi1, hy0, hy1, hy2⟩ := info_parts Tryz.infoRfCells
                      refine wpEnds.take 0 10 (v := ?vc00) rfl (by kernel_rfl) (by kernel_rfl) (by kernel_rfl) (by kernel_rfl) (by kernel_rfl) (fun _ _ _ h => h) (by kernel_rfl) hHeld (fun w' hSw => ?hyc00) ?restc00
                      case hyc00 => ((try dsimp only at hSw); go_simp; try with_reducible rfl)
                      case restc00 =>
                      (try simp only [Act.put, List.setIfInBounds_toArray, List.set_cons_zero, List.set_cons_succ])
                      refine wpEnds.take 1 10 (v := ?vc01) rfl (by kernel_rfl) (by kernel_rfl) (by kernel_rfl) (by kernel_rfl) (by kernel_rfl) (fun _ _ _ h => h) (by kernel_rfl) hHeld (fun w' hSw => ?hyc01) ?restc01
                      case hyc01 => ((try dsimp only at hSw); go_simp; try with_reducible rfl)
                      case restc01 =>
                      (try simp only [Act.put, List.setIfInBounds_toArray, List.set_cons_zero, List.set_cons_succ])
                      refine wpEnds.take 2 10 (v := ?vc02) rfl (by kernel_rfl) (by kernel_rfl) (by kernel_rfl) (by kernel_rfl) (by kernel_rfl) (fun _ _ _ h => h) (by kernel_rfl) hHeld (fun w' hSw => ?hyc02) ?restc02
                      case hyc02 => ((try dsimp only at hSw); go_simp; try with_reducible rfl)
                      case restc02 =>
                      (try simp only [Act.put, List.setIfInBounds_toArray, List.set_cons_zero, List.set_cons_succ])
                      refine wpEnds.take 3 10 (v := ?vc03) rfl (by kernel_rfl) (by kernel_rfl) (by kernel_rfl) (by kernel_rfl) (by kernel_rfl) (fun _ _ _ h => h) (by kernel_rfl) hHeld (fun w' hSw => ?hyc03) ?restc03
                      case hyc03 => ((try dsimp only at hSw); go_simp; try with_reducible rfl)
                      case restc03 =>
                      (try simp only [Act.put, List.setIfInBounds_toArray, List.set_cons_zero, List.set_cons_succ])
                      refine wpEnds.take 4 10 (v := ?vc04) rfl (by kernel_rfl) (by kernel_rfl) (by kernel_rfl) (by kernel_rfl) (by kernel_rfl) (fun _ _ _ h => h) (by kernel_rfl) hHeld (fun w' hSw => ?hyc04) ?restc04
                      case hyc04 => ((try dsimp only at hSw); go_simp; try with_reducible rfl)
                      case restc04 =>
                      (try simp only [Act.put, List.setIfInBounds_toArray, List.set_cons_zero, List.set_cons_succ])
                      refine wpEnds.one 5 (by kernel_rfl) rfl (fun K hK => ?_)
                      go_simp
                      (with_reducible refine (IH.out t2 _ HS2.out bl hbl w6.drew c0HD.out c0HMD.out HT2.out).mono ?_)
                      rintro e w9 ⟨hg9, a2, n2, q2, rfl, hx9, hl9⟩
                      have HXN := hid hx9
                      have HG9 := hid ((Gr.of w6 bl).drew.trans' hg9)
                      have HX9 := hid (hg9.at' c0HXD.out hblx)
                      have HL9 := hid hl9
                      have hsz9 : bx < w9.heap.size := boxLt HX9.out
                      have c9 : w9.cell? ⟨bx, 2, none⟩ = some (.slice aw (Tr.way l ws).len qw) := (cell_block HX9.out 2).trans rfl
                      have c10 : (w9.alloc (.cells #[.slice a2 n2 q2] 40)).cell? ⟨bx, 2, none⟩ = some (.slice aw (Tr.way l ws).len qw) := (((Below.refl _ _).alloc (Nat.le_refl _) _).cell hsz9).trans c9
                      have HR9 := hid (show RowX w5 w9 40 1 (.slice aw (Tr.way l ws).len qw) (.way l ws) bx from (HR0.out).grown HG9.out hblB)
                      clear hg9 hl9
                      refine hK.out _ _ c9 ?_
                      clear hK K
                      (try simp only [Act.put, List.setIfInBounds_toArray, List.set_cons_zero, List.set_cons_succ])
                      refine wpEnds.one 6 (by kernel_rfl) rfl (fun K hK => ?_)
                      go_simp
                      refine hK.out _ _ c10 ?_
                      clear hK K
                      (try simp only [Act.put, List.setIfInBounds_toArray, List.set_cons_zero, List.set_cons_succ])
                      refine wpEnds.one 7 (by kernel_rfl) rfl (fun K hK => ?_)
                      refine ldAny_held (by rfl) w5 _ w9 bx _ _ 78 (by rfl) 40 i1 _ 1 24 Tryz.underlying78 hi1 hy0 hy1 hy2 (by rfl) (by decide) (.slice aw (Tr.way l ws).len qw) (.way l ws) (Tr.way l ws).len rfl (by rfl) HR9.out #[.slice a2 n2 q2] rfl (by rfl) (by rfl) (by rfl) hlenw (by decide) (Nat.le_trans hBs HG9.out.size) ?_
                      intro av cv wb HGB
                      have HBX2 := hid (boxOld HGB.out HX9.out (HR9.out.apart HX9.out (by decide)))
                      have cb : wb.cell? ⟨bx, 2, none⟩ = some (.slice aw (Tr.way l ws).len qw) := (cell_block HBX2.out 2).trans rfl
                      have hbfr := free_block HBX2.out
                      have hblt := boxLt HBX2.out
                      have HP6 := hid (push_grR (HGS.out.trans' HG9.out) HGB.out (fun k hk => Nat.le_trans hwaB (HR9.out.lt k hk).1) hblwa HL9.out)
                      have HSB := hid (Nat.le_trans hBs (Nat.le_trans HG9.out.size (Nat.le_trans (show w9.heap.size ≤ (w9.alloc (.cells #[.slice a2 n2 q2] 40)).heap.size by simp) HGB.out.size)))
                      clear HGB
                      refine hK.out _ _ cb ?_
                      clear hK K
                      (try simp only [Act.put, List.setIfInBounds_toArray, List.set_cons_zero, List.set_cons_succ])
                      refine wpEnds.take 8 10 (v := ?vc08) rfl (by kernel_rfl) (by kernel_rfl) (by kernel_rfl) (by kernel_rfl) (by kernel_rfl) (fun _ _ _ h => h) (by kernel_rfl) cb (fun w' hSw => ?hyc08) ?restc08
                      case hyc08 => ((try dsimp only at hSw); go_simp; try with_reducible rfl)
                      case restc08 =>
                      (try simp only [Act.put, List.setIfInBounds_toArray, List.set_cons_zero, List.set_cons_succ])
                      refine wpEnds.last 9 (by kernel_rfl) (by kernel_rfl) rfl (fun K hK => ?_)
                      go_simp
                      refine hK.out _ _ ?_
                      clear hK K
                      (try simp only [Act.put, List.setIfInBounds_toArray, List.set_cons_zero, List.set_cons_succ])
                      have HBW := hid (box_way (vw' := .slice av ((Tr.way l ws).len + 1) cv) HP6.out.1 hwabx hblx HP6.out.2 HBX2.out)
                      go_wp2_with fail
                      go_roundw
                      case rel => exact .inr ⟨e0, _, _, _, HBW.out.1, HBW.out.2.1, HXN.out, by rw [JE.out]; rfl, HBW.out.2.2.1⟩
                      case measure =>
                        rw [leftR_is HBW.out.2.1, leftR_is JL.out]
                        exact hs'pos
                    · have HS2 := hid hs2
                      have HW4 := hid hw4
                      have hsh2 := PC.shrinks k _ _ _ hs2
                      have hTOT := hid (show (ws.app (.way l2 .nil)).tot + s4.length ≤ s1.length ∧ s4.length < s'.length by rw [Tr.tot_app]; simp [Tr.tot]; omega)
                      clear hs2 hw4
                      go_upto_region 9 with (go_at_call 17; (with_reducible refine (takeR_yes s' t2 0 124 HB2.out bl wi JL.out).mono ?_); rintro e w6 ⟨rfl, h6, hg6⟩; have H6 := hid h6; have HG6 := hid hg6; have HGS := hid (HGS2.out.trans' hg6); have HX6 := hid (hg6.at' JB.out hblx); have HM6 := hid (JM.out.gr hg6 hbl); clear h6 hg6)
                      have c2 : w6.cell? ⟨bx, 2, none⟩ = some (.slice aw (Tr.way l ws).len qw) := (cell_block HX6.out 2).trans rfl
                      have hBs : w5.heap.size ≤ w6.heap.size := Nat.le_trans JZ.out HG6.out.size
                      have hBB : w5.heap.size ≤ w6.heap.size := hBs
                      have hbxs : bx < w6.heap.size := boxLt HX6.out
                      have HR0 := hid (JR.out.grown HG6.out hblB)
                      refine wpEnds.begin (fun w' => w'.cell? ⟨bx, 2, none⟩ = some (.slice aw (Tr.way l ws).len qw)) 9 (by kernel_rfl) c2 (fun hHeld => ?_)
                      have d0HD := hid (show LR w6.drew bl t2 0 from H6.out)
                      have d0HMD := hid (show Mx w6.drew from HM6.out)
                      have d0HXD := hid (show w6.drew.heap[bx]? = some (.cells #[st [], .bool false, .slice aw (Tr.way l ws).len qw] 80 (0, 0)) from HX6.out)
                      obtain ⟨i1, hi1, hy0, hy1, hy2⟩ := info_parts Tryz.infoRfCells
                      refine wpEnds.take 0 10 (v := ?vd00) rfl (by kernel_rfl) (by kernel_rfl) (by kernel_rfl) (by kernel_rfl) (by kernel_rfl) (fun _ _ _ h => h) (by kernel_rfl) hHeld (fun w' hSw => ?hyd00) ?restd00
                      case hyd00 => ((try dsimp only at hSw); go_simp; try with_reducible rfl)
                      case restd00 =>
                      (try simp only [Act.put, List.setIfInBounds_toArray, List.set_cons_zero, List.set_cons_succ])
                      refine wpEnds.take 1 10 (v := ?vd01) rfl (by kernel_rfl) (by kernel_rfl) (by kernel_rfl) (by kernel_rfl) (by kernel_rfl) (fun _ _ _ h => h) (by kernel_rfl) hHeld (fun w' hSw => ?hyd01) ?restd01
                      case hyd01 => ((try dsimp only at hSw); go_simp; try with_reducible rfl)
                      case restd01 =>
                      (try simp only [Act.put, List.setIfInBounds_toArray, List.set_cons_zero, List.set_cons_succ])
                      refine wpEnds.take 2 10 (v := ?vd02) rfl (by kernel_rfl) (by kernel_rfl) (by kernel_rfl) (by kernel_rfl) (by kernel_rfl) (fun _ _ _ h => h) (by kernel_rfl) hHeld (fun w' hSw => ?hyd02) ?restd02
                      case hyd02 => ((try dsimp only at hSw); go_simp; try with_reducible rfl)
                      case restd02 =>
                      (try simp only [Act.put, List.setIfInBounds_toArray, List.set_cons_zero, List.set_cons_succ])
                      refine wpEnds.take 3 10 (v := ?vd03) rfl (by kernel_rfl) (by kernel_rfl) (by kernel_rfl) (by kernel_rfl) (by kernel_rfl) (fun _ _ _ h => h) (by kernel_rfl) hHeld (fun w' hSw => ?hyd03) ?restd03
                      case hyd03 => ((try dsimp only at hSw); go_simp; try with_reducible rfl)
                      case restd03 =>
                      (try simp only [Act.put, List.setIfInBounds_toArray, List.set_cons_zero, List.set_cons_succ])
                      refine wpEnds.take 4 10 (v := ?vd04) rfl (by kernel_rfl) (by kernel_rfl) (by kernel_rfl) (by kernel_rfl) (by kernel_rfl) (fun _ _ _ h => h) (by kernel_rfl) hHeld (fun w' hSw => ?hyd04) ?restd04
                      case hyd04 => ((try dsimp only at hSw); go_simp; try with_reducible rfl)
                      case restd04 =>
                      (try simp only [Act.put, List.setIfInBounds_toArray, List.set_cons_zero, List.set_cons_succ])
                      refine wpEnds.one 5 (by kernel_rfl) rfl (fun K hK => ?_)
                      go_simp
                      (with_reducible refine (IH.out t2 _ HS2.out bl hbl w6.drew d0HD.out d0HMD.out HT2.out).mono ?_)
                      rintro e w9 ⟨hg9, v2, rfl, hv2, hl9⟩
                      obtain ⟨a2, q2, rfl⟩ := hv2.form
                      have HV2 := hid hv2
                      clear hv2
                      have HG9 := hid ((Gr.of w6 bl).drew.trans' hg9)
                      have HX9 := hid (hg9.at' d0HXD.out hblx)
                      have HL9 := hid hl9
                      have hsz9 : bx < w9.heap.size := boxLt HX9.out
                      have c9 : w9.cell? ⟨bx, 2, none⟩ = some (.slice aw (Tr.way l ws).len qw) := (cell_block HX9.out 2).trans rfl
                      have c10 : (w9.alloc (.cells #[.slice a2 l2.len q2] 40)).cell? ⟨bx, 2, none⟩ = some (.slice aw (Tr.way l ws).len qw) := (((Below.refl _ _).alloc (Nat.le_refl _) _).cell hsz9).trans c9
                      have HR9 := hid (show RowX w5 w9 40 1 (.slice aw (Tr.way l ws).len qw) (.way l ws) bx from (HR0.out).grown HG9.out hblB)
                      clear hg9 hl9
                      refine hK.out _ _ c9 ?_
                      clear hK K
                      (try simp only [Act.put, List.setIfInBounds_toArray, List.set_cons_zero, List.set_cons_succ])
                      refine wpEnds.one 6 (by kernel_rfl) rfl (fun K hK => ?_)
                      go_simp
                      refine hK.out _ _ c10 ?_
                      clear hK K
                      (try simp only [Act.put, List.setIfInBounds_toArray, List.set_cons_zero, List.set_cons_succ])
                      refine wpEnds.one 7 (by kernel_rfl) rfl (fun K hK => ?_)
                      refine ldPush_held (by rfl) w5 _ w9 bx _ _ 78 (by rfl) 40 i1 _ 1 24 Tryz.underlying78 hi1 hy0 hy1 hy2 (by rfl) (by decide) (.slice aw (Tr.way l ws).len qw) (.way l ws) (.way l2 .nil) (Tr.way l ws).len rfl (by rfl) HR9.out #[.slice a2 l2.len q2] rfl (by rfl) (by rfl) (by rfl) rfl (HV2.out.way (HR0.out.new hBB (Nat.le_refl _) hbxs)) hlenw (by decide) (Nat.le_trans hBs HG9.out.size) hsz9 ?_
                      intro av cv wb HRX HGB
                      have HBX2 := hid (boxOld HGB.out HX9.out (HR9.out.apart HX9.out (by decide)))
                      have cb : wb.cell? ⟨bx, 2, none⟩ = some (.slice aw (Tr.way l ws).len qw) := (cell_block HBX2.out 2).trans rfl
                      have hbfr := free_block HBX2.out
                      have hblt := boxLt HBX2.out
                      have HP6 := hid (push_grR (HGS.out.trans' HG9.out) HGB.out (fun k hk => Nat.le_trans hwaB (HR9.out.lt k hk).1) hblwa HL9.out)
                      have HSB := hid (Nat.le_trans hBs (Nat.le_trans HG9.out.size (Nat.le_trans (show w9.heap.size ≤ (w9.alloc (.cells #[.slice a2 l2.len q2] 40)).heap.size by simp) HGB.out.size)))
                      clear HGB
                      refine hK.out _ _ cb ?_
                      clear hK K
                      (try simp only [Act.put, List.setIfInBounds_toArray, List.set_cons_zero, List.set_cons_succ])
                      refine wpEnds.take 8 10 (v := ?vd08) rfl (by kernel_rfl) (by kernel_rfl) (by kernel_rfl) (by kernel_rfl) (by kernel_rfl) (fun _ _ _ h => h) (by kernel_rfl) cb (fun w' hSw => ?hyd08) ?restd08
                      case hyd08 => ((try dsimp only at hSw); go_simp; try with_reducible rfl)
                      case restd08 =>
                      (try simp only [Act.put, List.setIfInBounds_toArray, List.set_cons_zero, List.set_cons_succ])
                      refine wpEnds.last 9 (by kernel_rfl) (by kernel_rfl) rfl (fun K hK => ?_)
                      go_simp
                      refine hK.out _ _ ?_
                      clear hK K
                      (try simp only [Act.put, List.setIfInBounds_toArray, List.set_cons_zero, List.set_cons_succ])
                      have HBW := hid (box_way (vw' := .slice av ((Tr.way l ws).len + 1) cv) HP6.out.1 hwabx hblx HP6.out.2 HBX2.out)
                      go_wp2_with fail
                      go_roundw
                      case rel => exact .inl ⟨_, ws.app (.way l2 .nil), s4, r4, HBW.out.1, by rw [HBW.out.2.2.2]; exact HSB.out, HBW.out.2.1, HRX.out.set 2 _, HBW.out.2.2.1, HW4.out, JE.out.trans (out_push _ _ _), hTOT.out.1⟩
                      case measure =>
                        rw [leftR_is HBW.out.2.1, leftR_is JL.out]
                        exact hTOT.out.2
                · have JG := hid jg
                  have JL := hid jl
                  have JX := hid jx
                  have JB := hid jb
                  have HAX := hid (show r' = .bad x9 by have h := HA.out; rw [je] at h; exact h)
                  clear jg jl jx jb je
                  have HN1 : Hid ((bk []).head? ≠ some 124) := hid (by simp [bk, Lib.trimLeftB])
                  have HN2 : Hid ((bk (bk [])).head? ≠ some 93) := hid (by simp [bk, Lib.trimLeftB])
                  go_upto_region 14 with (first
                    | (go_at_call 17; (with_reducible refine (takeR_no [] x9 124 HN1.out bl wi JL.out).mono ?_); rintro e w6 ⟨rfl, h6, hg6⟩; have H6 := hid h6; have HG6 := hid (JG.out.trans' hg6); have HX6 := hid (hg6.at' JB.out hblx); clear h6 hg6)
                    | (go_at_call 17; (with_reducible refine (takeR_no (bk []) x9 93 HN2.out bl w6 H6.out).mono ?_); rintro e w7 ⟨rfl, h7, hg7⟩; have H7 := hid h7; have HG7 := hid (HG6.out.trans' hg7); have HX7 := hid (hg7.at' HX6.out hblx); clear h7 hg7)
                    | (go_at_call 18; (with_reducible refine (failsR_any (bk (bk [])) x9 3 bl w7 H7.out).mono ?_); rintro e w8 ⟨rfl, h8, hg8⟩; have H8 := hid h8; have HG8 := hid (HG7.out.trans' hg8); have HX8 := hid (hg8.at' HX7.out hblx); clear h8 hg8))
                  rw [firstBad_ne JX.out] at H8
                  have cx0 : w8.cell? ⟨bx, 0, none⟩ = some (st []) := (cell_block HX8.out 0).trans rfl
                  have cx1 : w8.cell? ⟨bx, 1, none⟩ = some (.bool false) := (cell_block HX8.out 1).trans rfl
                  have cx2 : w8.cell? ⟨bx, 2, none⟩ = some (.slice a9 n9 q9) := (cell_block HX8.out 2).trans rfl
                  have hlx := boxLt HX8.out
                  have HROW8 := hid (HROW.out.grown HG8.out hblw)
                  have HGW8 := hid (HGR.out.trans' HG8.out)
                  obtain ⟨i0, hi, hz0, hz1, hz2⟩ := info_parts Tryz.infoRfCell
                  go_wp2_with (at_builtin; refine ldAny w _ w8 rfl _ _ 40 rfl 80 i0 _ 3 48 Tryz.underlying40 hi hz0 hz1 hz2 rfl (by decide) u5 acc acc.len rfl rfl HROW8.out _ rfl rfl rfl rfl hacc (by decide) HGW8.out.size ?_; intro av cv wb HGB; have HP9 := hid (push_grR HGW8.out HGB.out (fun k hk => (HROW.out.lt k hk).1) hblw H8.out); clear HGB)
                  go_roundw
                  case rel => exact .inr ⟨_, _, _, _, HP9.out.1, HP9.out.2, JX.out, by rw [HRE.out, HAX.out]; rfl, rfl⟩
                  case measure =>
                    rw [leftR_is HP9.out.2, leftR_is HL.out]
                    exact hs0pos
          · have hb91 : ∀ t', bk s0 ≠ 91 :: t' := fun t' e => by rw [hb] at e; cases e; exact h91 rfl
            obtain ⟨no, u, hlead, hcase⟩ := hpr.lead (by rw [hb]; exact hst) hb91
            have H91 := hid (show (bk (c :: t)).head? ≠ some 91 by rw [hc32]; simpa using h91)
            have HC := hid hc32
            have hul : u.length ≤ s0.length := by
              have h1 := bk_len s0
              cases no
              · rw [(lead_no hb hlead).2]; exact h1
              · rw [(lead_yes hb hlead).2]; omega
            have HUL := hid (show u.length ≤ 1000000 by omega)
            cases no
            · obtain ⟨hc, hu⟩ := lead_no hb hlead
              rw [hb] at hu
              have HU := hid hu
              have H47 := hid (show (bk (c :: t)).head? ≠ some 47 by rw [hc32]; simpa using hc)
              clear hb hbb hb91 hlead hpr hst hc hu hc32
              go_upto_region 13 with (first
                | (go_at_call 17; (with_reducible refine (takeR_no (c :: t) 0 91 H91.out bl wc H4.out).mono ?_); rintro e w5 ⟨rfl, h5, hg5⟩; rw [HC.out] at h5; have H5 := hid h5; have HG5 := hid (HG4.out.trans' hg5); have HX5 := hid (hg5.at' HX4.out hblx); clear h5 hg5)
                | (go_at_call 17; (with_reducible refine (takeR_no (c :: t) 0 47 H47.out bl w5 H5.out).mono ?_); rintro e w6 ⟨rfl, h6, hg6⟩; rw [HC.out] at h6; have H6 := hid h6; have HG6 := hid (HG5.out.trans' hg6); have HX6 := hid (hg6.at' HX5.out hblx); (have c1 : w6.cell? ⟨bx, 1, none⟩ = some (.bool false) := (cell_block HX6.out 1).trans rfl); have hfb := free_block HX6.out; have hlb := boxLt HX6.out; clear h6 hg6))
              rw [← HU.out] at H6
              obtain ⟨m1, m2, m3, m4⟩ := box_not (b := false) HG6.out hwabx hblx H6.out HX6.out
              generalize w6.setCell ⟨bx, 1, none⟩ (.bool false) = w7 at m1 m2 m3 m4 ⊢
              have HG7 := hid m1
              have H7 := hid m2
              have HX7 := hid m3
              have HM7 := hid (HK.out.gr (HGR.out.trans' m1) hbl)
              clear m1 m2 m3 m4 c1 hfb hlb
              go_upto_region 14 with (go_at_call 21; (with_reducible refine (nameLine_any u 0 bl hbl w7 H7.out HM7.out HUL.out).mono ?_); rintro e w8 ⟨rfl, hg8, h8⟩; have H8 := hid h8; have HG8 := hid (HG7.out.trans' hg8); have HX8 := hid (hg8.at' HX7.out hblx); (have c0 : w8.cell? ⟨bx, 0, none⟩ = some (st []) := (cell_block HX8.out 0).trans rfl); have hfb := free_block HX8.out; have hlb := boxLt HX8.out; clear h8 hg8)
              have HN9 := hid (show (w8.setCell ⟨bx, 0, none⟩ (st (nmOf u))).heap[bx]? = some (.cells #[st (nmOf u), .bool false, .slice none 0 0] 80 (0, 0)) from (boxSet HX8.out 0 _).trans (by simp))
              have HG9 := hid (HG8.out.setNew hwabx 0 (st (nmOf u)))
              have HL9 := hid (show if goodName (nmOf u) = true then LR (w8.setCell ⟨bx, 0, none⟩ (st (nmOf u))) bl (nmRest u) 0 else LR (w8.setCell ⟨bx, 0, none⟩ (st (nmOf u))) bl [] 3 by
                have h := H8.out
                split
                · rename_i hh
                  rw [if_pos hh] at h
                  exact (heap_setCell_other _ _ _ _ hblx).trans h
                · rename_i hh
                  rw [if_neg hh] at h
                  exact (heap_setCell_other _ _ _ _ hblx).trans h)
              generalize w8.setCell ⟨bx, 0, none⟩ (st (nmOf u)) = w9 at HN9 HG9 HL9 ⊢
              clear c0 hfb hlb HX8 HG8 H8 HX7 HG7 H7 HM7 HX6 HG6 H6 HX5 HG5 H5
              rcases hcase with ⟨hgn, rfl⟩ | ⟨hgn, r3, hr3, rfl⟩
              · have HB9 := hid (show LR w9 bl [] 3 by have h := HL9.out; rw [if_neg (by rw [hgn]; simp)] at h; exact h)
                clear hgn HL9
                have cx0 : w9.cell? ⟨bx, 0, none⟩ = some (st (nmOf u)) := (cell_block HN9.out 0).trans rfl
                have cx1 : w9.cell? ⟨bx, 1, none⟩ = some (.bool false) := (cell_block HN9.out 1).trans rfl
                have cx2 : w9.cell? ⟨bx, 2, none⟩ = some (.slice none 0 0) := (cell_block HN9.out 2).trans rfl
                have hlx := boxLt HN9.out
                have HROW8 := hid (HROW.out.grown HG9.out hblw)
                have HGW8 := hid (HGR.out.trans' HG9.out)
                obtain ⟨i0, hi, hz0, hz1, hz2⟩ := info_parts Tryz.infoRfCell
                go_wp2_with (at_builtin; refine ldAny w _ w9 rfl _ _ 40 rfl 80 i0 _ 3 48 Tryz.underlying40 hi hz0 hz1 hz2 rfl (by decide) u5 acc acc.len rfl rfl HROW8.out _ rfl rfl rfl rfl hacc (by decide) HGW8.out.size ?_; intro av cv wb HGB; have HP9 := hid (push_grR HGW8.out HGB.out (fun k hk => (HROW.out.lt k hk).1) hblw HB9.out); clear HGB)
                go_roundw
                case rel => exact .inr ⟨_, _, _, _, HP9.out.1, HP9.out.2, by decide, by rw [HRE.out]; rfl, rfl⟩
                case measure =>
                  rw [leftR_is HP9.out.2, leftR_is HL.out]
                  exact hs0pos
              · have HB9 := hid (show LR w9 bl (nmRest u) 0 by have h := HL9.out; rw [if_pos hgn] at h; exact h)
                have HR3 := hid hr3
                have hll := lead_len0 u hgn
                have hTOT := hid (show acc.tot + (Tr.one false (nmOf u) .nil).tot + (nmRest u).length ≤ s.length ∧ (nmRest u).length < s0.length by simp only [Tr.tot]; omega)
                clear hgn HL9 hr3 hll
                have cx0 : w9.cell? ⟨bx, 0, none⟩ = some (st (nmOf u)) := (cell_block HN9.out 0).trans rfl
                have cx1 : w9.cell? ⟨bx, 1, none⟩ = some (.bool false) := (cell_block HN9.out 1).trans rfl
                have cx2 : w9.cell? ⟨bx, 2, none⟩ = some (.slice none 0 0) := (cell_block HN9.out 2).trans rfl
                have hlx := boxLt HN9.out
                have HROW8 := hid (HROW.out.grown HG9.out hblw)
                have HGW8 := hid (HGR.out.trans' HG9.out)
                obtain ⟨i0, hi, hz0, hz1, hz2⟩ := info_parts Tryz.infoRfCell
                go_wp2_with (at_builtin; refine ldPush w _ w9 rfl _ _ 40 rfl 80 i0 _ 3 48 Tryz.underlying40 hi hz0 hz1 hz2 rfl (by decide) u5 acc (.one false (nmOf u) .nil) acc.len rfl rfl HROW8.out _ rfl rfl rfl rfl rfl (oneL _ _ _ _) hacc (by decide) HGW8.out.size ?_; intro av cv wb HRW HGB; have HP9 := hid (push_grR HGW8.out HGB.out (fun k hk => (HROW.out.lt k hk).1) hblw HB9.out); clear HGB)
                go_roundw
                case rel => exact .inl (GoodR.push HP9.out.1 HP9.out.2 HRW.out HR3.out HRE.out rfl hTOT.out.1)
                case measure =>
                  rw [leftR_is HP9.out.2, leftR_is HL.out]
                  exact hTOT.out.2
            · obtain ⟨hc, hu⟩ := lead_yes hb hlead
              subst hu
              subst hc
              clear hb hbb hb91 hlead hpr hst
              go_upto_region 13 with (first
                | (go_at_call 17; (with_reducible refine (takeR_no (47 :: u) 0 91 H91.out bl wc H4.out).mono ?_); rintro e w5 ⟨rfl, h5, hg5⟩; rw [HC.out] at h5; have H5 := hid h5; have HG5 := hid (HG4.out.trans' hg5); have HX5 := hid (hg5.at' HX4.out hblx); clear h5 hg5)
                | (go_at_call 17; (with_reducible refine (takeR_yes (47 :: u) u 0 47 HC.out bl w5 H5.out).mono ?_); rintro e w6 ⟨rfl, h6, hg6⟩; have H6 := hid h6; have HG6 := hid (HG5.out.trans' hg6); have HX6 := hid (hg6.at' HX5.out hblx); (have c1 : w6.cell? ⟨bx, 1, none⟩ = some (.bool false) := (cell_block HX6.out 1).trans rfl); have hfb := free_block HX6.out; have hlb := boxLt HX6.out; clear h6 hg6))
              obtain ⟨m1, m2, m3, m4⟩ := box_not (b := true) HG6.out hwabx hblx H6.out HX6.out
              generalize w6.setCell ⟨bx, 1, none⟩ (.bool true) = w7 at m1 m2 m3 m4 ⊢
              have HG7 := hid m1
              have H7 := hid m2
              have HX7 := hid m3
              have HM7 := hid (HK.out.gr (HGR.out.trans' m1) hbl)
              clear m1 m2 m3 m4 c1 hfb hlb
              go_upto_region 14 with (go_at_call 21; (with_reducible refine (nameLine_any u 0 bl hbl w7 H7.out HM7.out HUL.out).mono ?_); rintro e w8 ⟨rfl, hg8, h8⟩; have H8 := hid h8; have HG8 := hid (HG7.out.trans' hg8); have HX8 := hid (hg8.at' HX7.out hblx); (have c0 : w8.cell? ⟨bx, 0, none⟩ = some (st []) := (cell_block HX8.out 0).trans rfl); have hfb := free_block HX8.out; have hlb := boxLt HX8.out; clear h8 hg8)
              have HN9 := hid (show (w8.setCell ⟨bx, 0, none⟩ (st (nmOf u))).heap[bx]? = some (.cells #[st (nmOf u), .bool true, .slice none 0 0] 80 (0, 0)) from (boxSet HX8.out 0 _).trans (by simp))
              have HG9 := hid (HG8.out.setNew hwabx 0 (st (nmOf u)))
              have HL9 := hid (show if goodName (nmOf u) = true then LR (w8.setCell ⟨bx, 0, none⟩ (st (nmOf u))) bl (nmRest u) 0 else LR (w8.setCell ⟨bx, 0, none⟩ (st (nmOf u))) bl [] 3 by
                have h := H8.out
                split
                · rename_i hh
                  rw [if_pos hh] at h
                  exact (heap_setCell_other _ _ _ _ hblx).trans h
                · rename_i hh
                  rw [if_neg hh] at h
                  exact (heap_setCell_other _ _ _ _ hblx).trans h)
              generalize w8.setCell ⟨bx, 0, none⟩ (st (nmOf u)) = w9 at HN9 HG9 HL9 ⊢
              clear c0 hfb hlb HX8 HG8 H8 HX7 HG7 H7 HM7 HX6 HG6 H6 HX5 HG5 H5
              rcases hcase with ⟨hgn, rfl⟩ | ⟨hgn, r3, hr3, rfl⟩
              · have HB9 := hid (show LR w9 bl [] 3 by have h := HL9.out; rw [if_neg (by rw [hgn]; simp)] at h; exact h)
                clear hgn HL9
                have cx0 : w9.cell? ⟨bx, 0, none⟩ = some (st (nmOf u)) := (cell_block HN9.out 0).trans rfl
                have cx1 : w9.cell? ⟨bx, 1, none⟩ = some (.bool true) := (cell_block HN9.out 1).trans rfl
                have cx2 : w9.cell? ⟨bx, 2, none⟩ = some (.slice none 0 0) := (cell_block HN9.out 2).trans rfl
                have hlx := boxLt HN9.out
                have HROW8 := hid (HROW.out.grown HG9.out hblw)
                have HGW8 := hid (HGR.out.trans' HG9.out)
                obtain ⟨i0, hi, hz0, hz1, hz2⟩ := info_parts Tryz.infoRfCell
                go_wp2_with (at_builtin; refine ldAny w _ w9 rfl _ _ 40 rfl 80 i0 _ 3 48 Tryz.underlying40 hi hz0 hz1 hz2 rfl (by decide) u5 acc acc.len rfl rfl HROW8.out _ rfl rfl rfl rfl hacc (by decide) HGW8.out.size ?_; intro av cv wb HGB; have HP9 := hid (push_grR HGW8.out HGB.out (fun k hk => (HROW.out.lt k hk).1) hblw HB9.out); clear HGB)
                go_roundw
                case rel => exact .inr ⟨_, _, _, _, HP9.out.1, HP9.out.2, by decide, by rw [HRE.out]; rfl, rfl⟩
                case measure =>
                  rw [leftR_is HP9.out.2, leftR_is HL.out]
                  exact hs0pos
              · have HB9 := hid (show LR w9 bl (nmRest u) 0 by have h := HL9.out; rw [if_pos hgn] at h; exact h)
                have HR3 := hid hr3
                have hll := lead_len0 u hgn
                have hTOT := hid (show acc.tot + (Tr.one true (nmOf u) .nil).tot + (nmRest u).length ≤ s.length ∧ (nmRest u).length < s0.length by simp only [Tr.tot]; omega)
                clear hgn HL9 hr3 hll
                have cx0 : w9.cell? ⟨bx, 0, none⟩ = some (st (nmOf u)) := (cell_block HN9.out 0).trans rfl
                have cx1 : w9.cell? ⟨bx, 1, none⟩ = some (.bool true) := (cell_block HN9.out 1).trans rfl
                have cx2 : w9.cell? ⟨bx, 2, none⟩ = some (.slice none 0 0) := (cell_block HN9.out 2).trans rfl
                have hlx := boxLt HN9.out
                have HROW8 := hid (HROW.out.grown HG9.out hblw)
                have HGW8 := hid (HGR.out.trans' HG9.out)
                obtain ⟨i0, hi, hz0, hz1, hz2⟩ := info_parts Tryz.infoRfCell
                go_wp2_with (at_builtin; refine ldPush w _ w9 rfl _ _ 40 rfl 80 i0 _ 3 48 Tryz.underlying40 hi hz0 hz1 hz2 rfl (by decide) u5 acc (.one true (nmOf u) .nil) acc.len rfl rfl HROW8.out _ rfl rfl rfl rfl rfl (oneL _ _ _ _) hacc (by decide) HGW8.out.size ?_; intro av cv wb HRW HGB; have HP9 := hid (push_grR HGW8.out HGB.out (fun k hk => (HROW.out.lt k hk).1) hblw HB9.out); clear HGB)
                go_roundw
                case rel => exact .inl (GoodR.push HP9.out.1 HP9.out.2 HRW.out HR3.out HRE.out rfl hTOT.out.1)
                case measure =>
                  rw [leftR_is HP9.out.2, leftR_is HL.out]
                  exact hTOT.out.2
    · have HGR := hid hgr
      have HL := hid hl
      have HRE := hid hre
      have HX := hid hx
      clear hgr hl hre hx
      go_wp2_with (go_at_call 19; (with_reducible refine (next_any [] x bl wa HL.out).mono ?_); rintro e w2 ⟨rfl, h2, hg2⟩; have H2 := hid h2; have HG2 := hid hg2; clear h2 hg2; rw [show (bk []).take 1 = [] from rfl])
      go_ret
      rw [HRE.out]
      exact ⟨HGR.out.trans' HG2.out, _, _, _, rfl, HX.out, H2.out⟩
theorem cellsR_any : ∀ (k : Nat), k ≤ 9 → ∀ (s : Bs) (r : Out), PC k s r → ∀ (bl : Nat), bl ≠ 3 → ∀ (w : World), LR w bl s 0 → Mx w → s.length ≤ 1000000 → Calls Tryz.prog 16 #[.pointer (some ⟨bl, 0, none⟩), .int .i64 (9 - (k : Int))] w (CPostR bl w r)
  | 0, _, s, r, h, bl, hbl, w, hl, _, _ => by
    have : r = .bad 4 := h
    subst this
    exact deepR bl hbl s w hl
  | k + 1, hk, s, r, h, bl, hbl, w, hl, hkp, hs => cellsR_succ k (by omega) (fun s r h bl hbl w hl hkp hs => cellsR_any k (by omega) s r h bl hbl w hl hkp hs) s r h bl hbl w hl hkp hs
end Go.Proofs.YtlaeflpddehipabGreatDoor

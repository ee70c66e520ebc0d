/- device.New. -/
import Derived.Test.YtlaeflpddehipabDoorRNew
import Derived.Test.YtlaeflpddehipabDoorParse
import Derived.Test.YtlaeflpddehipabDoorLsRegs
import Derived.Deep.QuietTactic
import Derived.BigQuiet
set_option linter.unusedVariables false
set_option linter.unusedSimpArgs false
set_option linter.unusedSectionVars false
namespace Go.Proofs.YtlaeflpddehipabDoor
open Go.RowKit
attribute [local go_sem ↓] Go.wp_at_zero Go.wp_at_succ

theorem dbits_is (B : Nat) (a : Option Addr) (n c : Nat) (l : List Int) (r : Int) (w : World) (hr : Hid (wBits l = r)) (hl : l.length = n) (hn : n ≤ 20) (hc : Cells B w a n (fun j => .int .i64 (l.getD j 0))) :
    Calls Tryd.prog 51 #[.slice a n c] w fun e w' => e = .returned (.int .i64 r) ∧ w' = w :=
  (dbits_any B a n c l w hl hn hc).mono fun _ _ ⟨h1, h2⟩ => ⟨by rw [h1, hr.out], h2.symm⟩
def DBit (w : World) (a : Option Addr) (n : Nat) (r : Int) : Prop := ∃ B l, wBits l = r ∧ l.length = n ∧ n ≤ 20 ∧ Cells B w a n (fun j => .int .i64 (l.getD j 0))
theorem dbits_q (a : Option Addr) (n c : Nat) (r : Int) (w : World) (q : Nat) (h : Hid (DBit w a n r)) : Calls Tryd.prog 51 #[.slice a n c] (w.drewN q) fun e w' => e = .returned (.int .i64 r) ∧ w' = w.drewN q := by
  obtain ⟨B, l, hr, hl, hn, hc⟩ := h.out
  exact dbits_is B a n c l r (w.drewN q) hr hl hn (hc.drewN q)
theorem wBits_no {l : List Int} (h : wAll l = false) : wBits l = -1 := by unfold wBits; rw [if_neg (by rw [h]; simp)]
theorem wBits_yes {l : List Int} {n t : Nat} (h : wAll l = true) (hn : l.length = n) (ht : wTo l n = t) : wBits l = (t : Int) := by unfold wBits; rw [if_pos h, hn, ht]
theorem intsNews {B : Nat} {W : World} {a : Option Addr} {n : Nat} {l : List Int} (h : Cells B W a n (fun j => .int .i64 (l.getD j 0))) (hl : l.length = n) :
    ∀ ad', a = some ad' → ∀ j u, (l.map (Value.int .i64))[j]? = some u → W.cell? (ad'.add j) = some u := by
  rintro ad' rfl
  exact h.news (by simpa using hl) (fun j hj => by simp [List.getD_eq_getElem?_getD, hl, hj])
theorem ints_one2 (l : List Int) : ∀ u ∈ l.map (Value.int .i64), u.oneCell' = true := by
  intro u hu
  obtain ⟨z, _, rfl⟩ := List.mem_map.1 hu
  rfl
theorem Cells.both {B B' : Nat} {w w' : World} {a : Option Addr} {m : Nat} {f f' : Nat → Value} (h : Cells B w a m f) (h' : Cells B' w' a m f') : Cells B w' a m f' := by
  rcases h with h | ⟨b, off, rfl, hB, _⟩
  · exact .inl h
  · rcases h' with h' | ⟨b', off', e, _, hc⟩
    · exact .inl h'
    · cases e
      exact .inr ⟨b, off, rfl, hB, hc⟩
theorem LnIn.both {B B' b : Nat} {w w' : World} {y : Lay} {L : LN} (h : LnIn B w b y L) (h' : LnIn B' w' b y L) : LnIn B w' b y L :=
  ⟨h'.g, h'.regs, h'.luts, h'.outs, ⟨h.rows.rr.both h'.rows.rr, h.rows.rl.both h'.rows.rl, fun i hi => (h.rows.ri i hi).both (h'.rows.ri i hi), h.rows.ro.both h'.rows.ro, h.rows.lr, h.rows.ll, h.rows.li, h.rows.lo⟩, h.hb⟩

theorem below_drewN {n : Nat} {w w' : World} (h : Below n w w') (q : Nat) : Below n w (w'.drewN q) := ⟨h.os, h.tape, h.output, h.size, h.block⟩
theorem below_from {w w' : World} {q : Nat} (h : Below (w.drewN q).heap.size (w.drewN q) w') : Below w.heap.size w w' := ⟨h.os, h.tape, h.output, h.size, h.block⟩
theorem below_alloc (w : World) (o : Obj) : Below w.heap.size w (w.alloc o) := (Below.refl _ _).alloc (Nat.le_refl _) _
/-- A device at block q, of the simulator at block s. -/
structure DBox (W : World) (hp q s : Nat) (ai ao : Option Addr) (ci co n m : Nat) (ins outs : List Int) : Prop where
  box : W.heap[q]? = some (.cells #[.pointer (some ⟨s, 0, none⟩), .slice ai n ci, .slice ao m co] 116 (0, 0))
  ins : W.ownsRow hp 3 1 (.slice ai n ci) n (ins.map (.int .i64))
  outs : W.ownsRow hp 3 1 (.slice ao m co) m (outs.map (.int .i64))
def DNewYes (L : LN) (n m : Nat) (ins outs : List Int) (w : World) (e : Ending) (w' : World) : Prop :=
  ∃ q s b hp y ai ci ao co, e = .returned (.tuple #[.pointer (some ⟨q, 0, none⟩), .nilIface]) ∧ w.heap.size ≤ hp ∧ hp ≤ w'.heap.size ∧
    (∀ wx : World, (∀ k, w.heap.size ≤ k → k < hp → wx.heap[k]? = w'.heap[k]?) → LnIn hp wx b y L) ∧
    LSim hp w' s b L.first ∧ DBox w' hp q s ai ao ci co n m ins outs ∧ Below w.heap.size w w'
def DNewPost (s : ByteArray) (n m : Nat) (ins outs : List Int) (w : World) (e : Ending) (w' : World) : Prop :=
  if devErr s ins outs = 0 then DNewYes (run (bl s)).1 n m ins outs w e w' else e = .returned (.tuple #[.pointer none, .iface 33 (.int .i64 (devErr s ins outs))]) ∧ Below w.heap.size w w'
theorem DNewPost.no {s : ByteArray} {n m : Nat} {ins outs : List Int} {w w' : World} {k : Int} (h : devErr s ins outs = k) (hk : k ≠ 0) (hb : Below w.heap.size w w') : DNewPost s n m ins outs w (.returned (.tuple #[.pointer none, .iface 33 (.int .i64 k)])) w' := by
  subst h
  unfold DNewPost
  rw [if_neg hk]
  exact ⟨rfl, hb⟩
theorem DNewPost.yes {s : ByteArray} {n m : Nat} {ins outs : List Int} {w w' : World} {e : Ending} {L : LN} (h : devErr s ins outs = 0) (hL : (run (bl s)).1 = L) (hy : DNewYes L n m ins outs w e w') : DNewPost s n m ins outs w e w' := by
  subst hL
  unfold DNewPost
  rw [if_pos h]
  exact hy
/-- An owned row made of a copy. -/
theorem copyRow {w wb : World} {av : Option Addr} {cv n : Nat} {l : List Int} (h : Hid (wb.ownsRow w.heap.size 3 1 (.slice av (0 + n) cv) (0 + n) ([] ++ l.map (.int .i64)))) : wb.ownsRow w.heap.size 3 1 (.slice av n cv) n (l.map (.int .i64)) := by
  have h' := h.out
  rw [Nat.zero_add, List.nil_append] at h'
  exact h'
theorem copyBelow {w w0 wb : World} (hb : Below w.heap.size w w0) (hP : Hid (w0.ownsRow w.heap.size 3 1 (.slice (some ⟨w.heap.size, 0, none⟩) 0 0) 0 [])) (hg : w0.grownBy wb (Value.slice (some ⟨w.heap.size, 0, none⟩) 0 0).ownBlock) : Below w.heap.size w wb :=
  hb.grown hg hb.size (fun k hk => (hP.out.lt k hk).1)

section
variable (B : Nat) (s : ByteArray) (ai ao : Option Addr) (n m ci co : Nat) (ins outs : List Int) (w : World)
set_option maxRecDepth 100000 in
set_option maxHeartbeats 3200000 in
theorem DNew_arg (hlen : s.size ≤ 1000000) (hni : ins.length = n) (hno : outs.length = m) (hn20 : n ≤ 20) (hm20 : m ≤ 20)
    (hci : Cells B w ai n (fun j => .int .i64 (ins.getD j 0))) (hco : Cells B w ao m (fun j => .int .i64 (outs.getD j 0))) (hbad : wAll ins = false ∨ wAll ins = true ∧ wAll outs = false) :
    Calls Tryd.prog 24 #[.string s, .slice ai n ci, .slice ao m co] w (DNewPost s n m ins outs w) := by
  have HNI := hid hni
  have HNO := hid hno
  have HCI := hid hci
  have HCO := hid hco
  clear hni hno hci hco
  rcases hbad with h1 | ⟨h1, h2⟩
  · have HZ := hid (devErr_in (s := s) (outs := outs) h1)
    have HW := hid (wBits_no h1)
    clear h1
    go_enter Tryd.func24, Tryd.ntmps24
    go_wp2_with (go_at_call 51; (with_reducible refine (dbits_is B ai n ci ins _ w HW HNI.out hn20 HCI.out).mono ?_); rintro e w1 ⟨rfl, hw1⟩; subst w1)
    go_ret2
    exact DNewPost.no HZ.out (by decide) (Below.refl _ _)
  · have HZ := hid (devErr_out (s := s) (ins := ins) h2)
    obtain ⟨t, ht⟩ : ∃ t, wTo ins n = t := ⟨_, rfl⟩
    have htl := wTo_le ins n
    rw [ht] at htl
    have HW := hid (wBits_yes h1 HNI.out ht)
    have HW2 := hid (wBits_no h2)
    have dt : decide ((t : Int) < 0) = false := decide_eq_false (by omega)
    clear h1 h2 ht
    go_enter Tryd.func24, Tryd.ntmps24
    go_wp2_with (first
      | (go_at_call 51; (with_reducible refine (dbits_is B ai n ci ins _ _ HW HNI.out hn20 HCI.out).mono ?_); rintro e w1 ⟨rfl, hw1⟩; subst w1)
      | (go_at_call 51; (with_reducible refine (dbits_is B ao m co outs _ _ HW2 HNO.out hm20 HCO.out).mono ?_); rintro e w1 ⟨rfl, hw1⟩; subst w1))
    go_ret2
    exact DNewPost.no HZ.out (by decide) (Below.refl _ _)
set_option maxRecDepth 100000 in
set_option maxHeartbeats 3200000 in
theorem DNew_form (hlen : s.size ≤ 1000000) (hni : ins.length = n) (hno : outs.length = m) (hn20 : n ≤ 20) (hm20 : m ≤ 20)
    (hci : Cells B w ai n (fun j => .int .i64 (ins.getD j 0))) (hco : Cells B w ao m (fun j => .int .i64 (outs.getD j 0))) (h1 : wAll ins = true) (h2 : wAll outs = true) (hp : parses (bl s) = false) :
    Calls Tryd.prog 24 #[.string s, .slice ai n ci, .slice ao m co] w (DNewPost s n m ins outs w) := by
  have HNI := hid hni
  have HNO := hid hno
  have HCI := hid hci
  have HCO := hid hco
  clear hni hno hci hco
  have HZ := hid (devErr_form h1 h2 hp)
  have HP := hid hp
  obtain ⟨ti, hti⟩ : ∃ t, wTo ins n = t := ⟨_, rfl⟩
  have htil := wTo_le ins n
  rw [hti] at htil
  obtain ⟨tu, hto⟩ : ∃ t, wTo outs m = t := ⟨_, rfl⟩
  have htol := wTo_le outs m
  rw [hto] at htol
  have HW := hid (wBits_yes h1 HNI.out hti)
  have HW2 := hid (wBits_yes h2 HNO.out hto)
  have dti : decide ((ti : Int) < 0) = false := decide_eq_false (by omega)
  have dtu : decide ((tu : Int) < 0) = false := decide_eq_false (by omega)
  clear h1 h2 hti hto hp
  go_enter Tryd.func24, Tryd.ntmps24
  go_wp2_with (first
    | (go_at_call 51; (with_reducible refine (dbits_is B ai n ci ins _ _ HW HNI.out hn20 HCI.out).mono ?_); rintro e w1 ⟨rfl, hw1⟩; subst w1)
    | (go_at_call 51; (with_reducible refine (dbits_is B ao m co outs _ _ HW2 HNO.out hm20 HCO.out).mono ?_); rintro e w1 ⟨rfl, hw1⟩; subst w1)
    | (go_at_call 12; (with_reducible refine (Parse_seg s hlen w).mono ?_); intro e w2 hpost; unfold ParsePostS at hpost; rw [if_neg (by rw [HP.out]; simp)] at hpost; obtain ⟨rfl, hb⟩ := hpost; have HB := hid hb; clear hb))
  go_ret2
  exact DNewPost.no HZ.out (by decide) HB.out
set_option maxRecDepth 100000 in
set_option maxHeartbeats 6400000 in
theorem DNew_rest (hlen : s.size ≤ 1000000) (hB : B ≤ w.heap.size) (hni : ins.length = n) (hno : outs.length = m) (hn20 : n ≤ 20) (hm20 : m ≤ 20)
    (hci : Cells B w ai n (fun j => .int .i64 (ins.getD j 0))) (hco : Cells B w ao m (fun j => .int .i64 (outs.getD j 0))) (hin : ai = none → n = 0 ∧ ci = 0) (hon : ao = none → m = 0 ∧ co = 0) (h1 : wAll ins = true) (h2 : wAll outs = true) (hp : parses (bl s) = true) :
    Calls Tryd.prog 24 #[.string s, .slice ai n ci, .slice ao m co] w (DNewPost s n m ins outs w) := by
  obtain ⟨i2, hi2, hx0, hx1, hx2⟩ := info_parts Tryd.infoOutInt
  have HNI := hid hni
  have HNO := hid hno
  have HCI := hid hci
  have HCO := hid hco
  have HIN := hid hin
  have HON := hid hon
  have HP := hid hp
  have HA1 := hid h1
  have HA2 := hid h2
  obtain ⟨M, hM⟩ : ∃ M, (run (bl s)).1 = M := ⟨_, rfl⟩
  have HM := hid hM
  have hright : M.right = true := by
    have h := hp
    unfold parses at h
    simp only [Bool.and_eq_true] at h
    rw [← hM]
    exact h.2
  have HR := hid hright
  obtain ⟨mo, hMo⟩ : ∃ n, M.outs.length = n := ⟨_, rfl⟩
  obtain ⟨mg, hMg⟩ : ∃ n, M.given = n := ⟨_, rfl⟩
  have HMO := hid hMo
  have HMG := hid hMg
  obtain ⟨ti, hti⟩ : ∃ t, wTo ins n = t := ⟨_, rfl⟩
  have htil := wTo_le ins n
  rw [hti] at htil
  obtain ⟨tu, hto⟩ : ∃ t, wTo outs m = t := ⟨_, rfl⟩
  have htol := wTo_le outs m
  rw [hto] at htol
  have HW := hid (wBits_yes h1 HNI.out hti)
  have HW2 := hid (wBits_yes h2 HNO.out hto)
  have dti : decide ((ti : Int) < 0) = false := decide_eq_false (by omega)
  have dtu : decide ((tu : Int) < 0) = false := decide_eq_false (by omega)
  have HQ := hid (show (M.given = (wTo ins ins.length : Nat) ∧ M.outs.length = wTo outs outs.length) ↔ (mg = (ti : Int) ∧ mo = tu) by rw [HNI.out, HNO.out, hti, hto, hMg, hMo])
  clear h1 h2 hti hto hp hni hno hci hco hin hon hM hright hMo hMg
  go_enter Tryd.func24, Tryd.ntmps24
  go_upto_region 6 with (first
    | (go_at_call 51; (with_reducible refine (dbits_is B ai n ci ins _ _ HW HNI.out hn20 HCI.out).mono ?_); rintro e w1 ⟨rfl, hw1⟩; subst w1)
    | (go_at_call 51; (with_reducible refine (dbits_is B ao m co outs _ _ HW2 HNO.out hm20 HCO.out).mono ?_); rintro e w1 ⟨rfl, hw1⟩; subst w1)
    | (go_at_call 12; (with_reducible refine (Parse_seg s hlen w).mono ?_); intro e w2 hpost; unfold ParsePostS at hpost; rw [if_pos HP.out] at hpost; obtain ⟨bn, y, rfl, hbn, hbn2, hnet, hb⟩ := hpost; rw [HM.out] at hnet; have HNET := hid hnet; have HB := hid hb; clear hb hnet))
  have hN2 := HNET.out w2 fun _ _ _ => rfl
  have HN2 := hid hN2
  have x0 := hN2.g
  have x3 := hN2.outs
  rw [HMG.out] at x0
  rw [HMO.out] at x3
  have hCI2 := HCI.out.stay (HB.out.mono hB)
  have hCO2 := HCO.out.stay (HB.out.mono hB)
  have HCI2 := hid hCI2
  have HCO2 := hid hCO2
  have HQ1 := hid (show DBit w2 ai n ti from ⟨B, ins, HW.out, HNI.out, hn20, hCI2⟩)
  have HQ2 := hid (show DBit w2 ao m tu from ⟨B, outs, HW2.out, HNO.out, hm20, hCO2⟩)
  clear hN2 hCI2 hCO2
  by_cases hg : mg = (ti : Int)
  · subst hg
    by_cases ho : mo = tu
    · obtain rfl : tu = mo := ho.symm
      have HZ := hid (devErr_none HA1.out HA2.out HP.out HM.out (HQ.out.2 ⟨rfl, rfl⟩))
      clear ho
      have HND := hid (fun q => HNET.out (w2.drewN q) fun _ _ _ => rfl)
      go_quiet ((go_at_call 51; exact Calls.quiet_of_same (dbits_q _ _ _ _ _ _ (by with_reducible assumption))))
      go_upto_region 11 with (go_at_call 37; (with_reducible refine (LsNew_right _ bn y M _ (HND.out _) (Nat.le_refl _) HR.out).mono ?_); rintro e w5 ⟨sb, rfl, hsim, hb5⟩; have HSIM5 := hid (show LSim w2.heap.size w5 sb bn M.first from hsim); have HB5 := hid (below_from hb5); clear hsim hb5)
      have hsz5 := HB5.out.size
      have hB2 : B ≤ w2.heap.size := Nat.le_trans hB HB.out.size
      have HA1 := hid (below_alloc w5 (.cells #[] 3))
      have HNEW1 := hid (intsNews ((HCI2.out.stay (HB5.out.mono hB2)).stay (HA1.out.mono (Nat.le_trans hB2 hsz5))) HNI.out)
      have HE1 := hid (empty_g (B := w5.heap.size) w5 3 1 _ rfl (Nat.le_refl _))
      clear x0 x3
      go_wp2_with (first
        | (at_builtin; refine wpSrc _ rfl _ _ 24 rfl w5.heap.size 3 i2 _ 1 8 Tryd.underlying24 hi2 hx0 hx1 hx2 rfl (by decide) (.slice (some ⟨w5.heap.size, 0, none⟩) 0 0) 0 [] rfl HE1.out ai n ci (ins.map (.int .i64)) rfl HIN.out (by simpa using HNI.out) HNEW1.out (ints_one2 _) ?_ ?_ ?_ ?_; (focus (unfold maxLen; omega)); (focus omega); (focus (simp; done)); intro av cv w6 HP1 hown1 hg1; have HB6 := hid (copyBelow HA1.out HP1 hg1.out); have HR6 := hid (copyRow hown1); have HA2' := hid (below_alloc w6 (.cells #[] 3)); have HE2 := hid (empty_g (B := w6.heap.size) w6 3 1 _ rfl (Nat.le_refl _)); have HNEW2 := hid (intsNews (((HCO2.out.stay (HB5.out.mono hB2)).stay (HB6.out.mono (Nat.le_trans hB2 hsz5))).stay (HA2'.out.mono (Nat.le_trans (Nat.le_trans hB2 hsz5) HB6.out.size))) HNO.out); clear HP1 hown1 hg1 HNEW1 HE1)
        | (at_builtin; refine wpSrc _ rfl _ _ 24 rfl w6.heap.size 3 i2 _ 1 8 Tryd.underlying24 hi2 hx0 hx1 hx2 rfl (by decide) (.slice (some ⟨w6.heap.size, 0, none⟩) 0 0) 0 [] rfl HE2.out ao m co (outs.map (.int .i64)) rfl HON.out (by simpa using HNO.out) HNEW2.out (ints_one2 _) ?_ ?_ ?_ ?_; (focus (unfold maxLen; omega)); (focus omega); (focus (simp; done)); intro av2 cv2 w7 HP2 hown2 hg2; have HB7 := hid (copyBelow HA2'.out HP2 hg2.out); have HR7 := hid (copyRow hown2); clear HP2 hown2 hg2 HNEW2 HE2))
      have HB8 := hid (below_alloc w7 (.cells #[.pointer (some ⟨sb, 0, none⟩), .slice av n cv, .slice av2 m cv2] 116))
      have h57 := HB6.out.trans (HB7.out.mono HB6.out.size)
      have h58 := h57.trans (HB8.out.mono h57.size)
      have h28 := HB5.out.trans (h58.mono HB5.out.size)
      have hle56 := HB6.out.size
      go_ret2
      refine DNewPost.yes HZ.out HM.out ⟨w7.heap.size, sb, bn, w2.heap.size, y, av, cv, av2, cv2, by simp, HB.out.size, h28.size, fun wx h => HN2.out.both (HNET.out wx fun k h1 h2 => (h k h1 h2).trans ((h28.block k h2))), HSIM5.out.stay h58, ⟨alloc_at _ _, lsBase (rowOld (rowOld HR6.out HB7.out) HB8.out) hsz5, lsBase (rowOld HR7.out HB8.out) (Nat.le_trans hsz5 hle56)⟩, HB.out.trans (h28.mono HB.out.size)⟩
    · have dn : decide ((mo : Int) = (tu : Int)) = false := decide_eq_false (by omega)
      have dn2 : decide (mo = tu) = false := decide_eq_false ho
      have hne : ¬ ((mo : Int) = (tu : Int)) := by omega
      have HZ := hid (devErr_range HA1.out HA2.out HP.out HM.out (fun h => ho (HQ.out.1 h).2))
      go_quiet ((go_at_call 51; exact Calls.quiet_of_same (dbits_q _ _ _ _ _ _ (by with_reducible assumption))))
      go_wp2
      go_ret2
      exact DNewPost.no HZ.out (by decide) (below_drewN HB.out _)
  · have dn : decide (mg = (ti : Int)) = false := decide_eq_false hg
    have HZ := hid (devErr_range HA1.out HA2.out HP.out HM.out (fun h => hg (HQ.out.1 h).1))
    go_quiet ((go_at_call 51; exact Calls.quiet_of_same (dbits_q _ _ _ _ _ _ (by with_reducible assumption))))
    go_wp2
    go_ret2
    exact DNewPost.no HZ.out (by decide) (below_drewN HB.out _)
end
end Go.Proofs.YtlaeflpddehipabDoor

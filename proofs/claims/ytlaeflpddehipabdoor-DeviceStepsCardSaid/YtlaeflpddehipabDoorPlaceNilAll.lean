/- sameInts, of what is the same. Two devices side by side: what stays as one of them goes on. From what an argument reads as to what lies in memory: rows of rows of ints. plain.Place, law.is and law.bare, of nil and of an Errno; sameBits. is and bare, of nil. -/
import Derived.Test.YtlaeflpddehipabDoorLsFactsAll
import Derived.Deep.QuietTactic
import Derived.BigQuiet
import Derived.Test.YtlaeflpddehipabDoorDNew
import Derived.Test.YtlaeflpddehipabDoorDLoad
import Derived.Test.YtlaeflpddehipabDoorOpenAll
import Derived.Test.YtlaeflpddehipabDoorTwUseAll
import Derived.Test.YtlaeflpddehipabDoorLaidAll
import Derived.Laws.Rows
import Derived.Deep.DeepCutAuto
section
set_option linter.unusedVariables false
set_option linter.unusedSimpArgs false
set_option linter.unusedSectionVars false
namespace Go.Proofs.YtlaeflpddehipabDoor
open Go.RowKit
attribute [local go_sem ↓] Go.wp_at_zero Go.wp_at_succ


set_option maxHeartbeats 800000 in
theorem sameInts_same (B : Nat) (a a' : Option Addr) (n c c' : Nat) (l : List Int) (w : World) (hB : B ≤ w.heap.size) (hm : n ≤ maxLen) (hx : Cells B w a n (fun i => .int .i64 (l.getD i 0))) (hy : Cells B w a' n (fun i => .int .i64 (l.getD i 0))) :
    Calls Tryd.prog 25 #[.slice a n c, .slice a' n c'] w (Yes w) := by
  unfold maxLen at hm
  have HX := hid hx
  have HY := hid hy
  clear hx hy
  go_enter Tryd.func25, Tryd.ntmps25
  go_wp2
  go_loopw [5] (fun i wr => ∃ k q : Nat, k ≤ n ∧ i = .int .i64 k ∧ wr = w.drewN q) (fun i _ => n - (intOf i).toNat)
  case atStart => exact ⟨0, 0, Nat.zero_le _, rfl, rfl⟩
  case round =>
    obtain ⟨k, q, hk, rfl, hwr⟩ := hrel
    have HW := hid hwr
    clear hwr
    by_cases hlt : k < n
    · obtain ⟨b, off, rfl, hb1, hcell⟩ := HX.out.at (by omega)
      obtain ⟨b', off', rfl, hb2, hcell'⟩ := HY.out.at (by omega)
      have h1 : wr.cell? ⟨b, off + k, none⟩ = some (.int .i64 (l.getD k 0)) := by rw [HW.out]; exact hcell k hlt
      have h2 : wr.cell? ⟨b', off' + k, none⟩ = some (.int .i64 (l.getD k 0)) := by rw [HW.out]; exact hcell' k hlt
      generalize l.getD k 0 = x at h1 h2
      have hkI : (k : Int) < n := by omega
      have hk0 : (0 : Int) ≤ k := by omega
      clear hcell hcell' HX HY
      go_wp2
      go_quiet (fail)
      go_wp2
      go_roundw
      case rel => exact ⟨k + 1, _, by omega, by go_num, by rw [HW.out]; exact drewN_add _ _ _⟩
      case measure => simp [intOf]; omega
    · obtain rfl : k = n := by omega
      go_wp2
      go_ret
      exact ⟨rfl, by rw [HW.out]; exact below_drewN (Below.refl _ _) q⟩
theorem sameI {B : Nat} {a a' : Option Addr} {n c c' : Nat} {l : List Int} {w9 W : World} (hB : B ≤ w9.heap.size) (hm : n ≤ maxLen) (hx : Cells B w9 a n (fun i => .int .i64 (l.getD i 0))) (hy : Cells B w9 a' n (fun i => .int .i64 (l.getD i 0))) (hb : Below w9.heap.size w9 W) :
    Calls Tryd.prog 25 #[.slice a n c, .slice a' n c'] W fun e w' => e = .returned (.bool true) ∧ Below w9.heap.size w9 w' := by
  refine (sameInts_same B a a' n c c' l W (Nat.le_trans hB hb.size) hm (hx.stay (hb.mono hB)) (hy.stay (hb.mono hB))).mono ?_
  rintro e w' ⟨rfl, hb'⟩
  exact ⟨rfl, hb.trans (hb'.mono hb.size)⟩
end Go.Proofs.YtlaeflpddehipabDoor
end
section
set_option linter.unusedVariables false
set_option linter.unusedSimpArgs false
set_option linter.unusedSectionVars false
namespace Go.Proofs.YtlaeflpddehipabDoor
open Go.RowKit
attribute [local go_sem ↓] Go.wp_at_zero Go.wp_at_succ

/-- Where two devices of one image lie: the program's (q, of the simulator s, of the net b), the document's (d). -/
structure TP where
  A1 : Nat
  hp : Nat
  q : Nat
  s : Nat
  b : Nat
  d : Nat
  n : Nat
  m : Nat
  nr : Nat
  ci : Nat
  co : Nat
  ki : Nat
  ko : Nat
  ai : Option Addr
  ao : Option Addr
  ei : Option Addr
  eo : Option Addr
  y : Lay
  y1 : Lay
  L : LN
  ins : List Int
  outs : List Int
  w0 : World

/-- What is so of these numbers and lists for good. -/
structure TPOk (p : TP) : Prop where
  da : p.d < p.A1
  ah : p.A1 ≤ p.hp
  right : p.L.right = true
  hni : p.ins.length = p.n
  hno : p.outs.length = p.m
  hn20 : p.n ≤ 20
  hm20 : p.m ≤ 20
  hol : p.L.outs.length = wTo p.outs p.m
  hnr : p.L.regs.length = p.nr
  hr : p.nr ≤ 1000000
  ci : Cells p.w0.heap.size p.w0 p.ei p.n (fun j => .int .i64 (p.ins.getD j 0))
  co : Cells p.w0.heap.size p.w0 p.eo p.m (fun j => .int .i64 (p.outs.getD j 0))

/-- The two in a world; r: what both hold .. r1 the program's, r2 the document's. -/
structure Two (p : TP) (r1 r2 : List Bool) (W : World) : Prop where
  low : Below p.w0.heap.size p.w0 W
  hpW : p.hp ≤ W.heap.size
  l1 : r1.length = p.nr
  l2 : r2.length = p.nr
  rb : RBox p.w0.heap.size W p.d (.int .i64 p.L.given) (.slice p.y1.ar p.L.regs.length p.y1.cr) (.slice p.y1.al p.L.luts.length p.y1.cl) (.slice p.y1.ao p.L.outs.length p.y1.co) (.slice p.ei p.n p.ki) (.slice p.eo p.m p.ko) r2
  ls : LSim p.hp W p.s p.b r1
  db : DBox W p.hp p.q p.s p.ai p.ao p.ci p.co p.n p.m p.ins p.outs
  si : ∀ wx : World, (∀ k, p.A1 ≤ k → k < p.hp → wx.heap[k]? = W.heap[k]?) → LnIn p.hp wx p.b p.y p.L
  sr : ∀ wx : World, (∀ k, p.w0.heap.size ≤ k → k < p.d → wx.heap[k]? = W.heap[k]?) → LnRows wx.heap.size wx p.y1 p.L

theorem DBox.stay {W W' : World} {hp q s : Nat} {ai ao : Option Addr} {ci co n m : Nat} {ins outs : List Int} (h : DBox W hp q s ai ao ci co n m ins outs) (hb : Below W.heap.size W W') : DBox W' hp q s ai ao ci co n m ins outs :=
  ⟨(hb.block q (boxLt h.box)).trans h.box, rowOld h.ins hb, rowOld h.outs hb⟩
theorem DBox.grown {W W' : World} {hp q s k T : Nat} {ai ao : Option Addr} {ci co n m : Nat} {ins outs : List Int} {cs : Array Value} (h : DBox W hp q s ai ao ci co n m ins outs) (h2 : W.heap[k]? = some (.cells cs T (0, 0))) (h1 : 116 ≠ T) (h3 : 3 ≠ T) (hg : W.grownBy W' (some k)) : DBox W' hp q s ai ao ci co n m ins outs :=
  ⟨boxGrown h.box h2 h1 hg, rowGrown h.ins h2 h3 hg, rowGrown h.outs h2 h3 hg⟩
theorem Two.below {p : TP} {r1 r2 : List Bool} {W W' : World} (o : TPOk p) (h : Two p r1 r2 W) (hb : Below W.heap.size W W') : Two p r1 r2 W' :=
  ⟨h.low.trans (hb.mono h.low.size), Nat.le_trans h.hpW hb.size, h.l1, h.l2, h.rb.stay hb, h.ls.stay hb, h.db.stay hb,
    fun wx hx => h.si wx fun k h1 h2 => (hx k h1 h2).trans (hb.block k (Nat.lt_of_lt_of_le h2 h.hpW)),
    fun wx hx => h.sr wx fun k h1 h2 => (hx k h1 h2).trans (hb.block k (Nat.lt_trans h2 h.rb.lt))⟩
/-- The program's went on. -/
theorem Two.sim {p : TP} {r1 r2 r1' : List Bool} {W W' : World} (o : TPOk p) (h : Two p r1 r2 W) (hl : LSim p.hp W' p.s p.b r1') (hn : r1'.length = p.nr) (hg : W.grownBy W' (some p.s)) : Two p r1' r2 W' := by
  obtain ⟨a9, cs, hps, hsb, hso⟩ := h.ls
  obtain ⟨ad, cd, hCd, hdb, hdo⟩ := h.rb
  have hda := o.da
  have hah := o.ah
  refine ⟨h.low.trans (belowGrown hg h.low.size (Nat.le_trans hCd (by omega))), Nat.le_trans h.hpW hg.size, hn, h.l2, ⟨ad, cd, hCd, boxGrown hdb hsb (by decide) hg, rowGrown hdo hsb (by decide) hg⟩, hl, h.db.grown hsb (by decide) (by decide) hg, ?_, ?_⟩
  · exact fun wx hx => h.si wx fun k h1 h2 => (hx k h1 h2).trans (hg.block k (Nat.lt_of_lt_of_le h2 h.hpW) (by simp; omega))
  · exact fun wx hx => h.sr wx fun k h1 h2 => (hx k h1 h2).trans (hg.block k (Nat.lt_trans h2 (boxLt hdb)) (by simp; omega))
/-- The document's went on. -/
theorem Two.doc {p : TP} {r1 r2 r2' : List Bool} {W W' : World} (o : TPOk p) (h : Two p r1 r2 W)
    (hl : RBox p.w0.heap.size W' p.d (.int .i64 p.L.given) (.slice p.y1.ar p.L.regs.length p.y1.cr) (.slice p.y1.al p.L.luts.length p.y1.cl) (.slice p.y1.ao p.L.outs.length p.y1.co) (.slice p.ei p.n p.ki) (.slice p.eo p.m p.ko) r2')
    (hn : r2'.length = p.nr) (hg : W.grownBy W' (some p.d)) : Two p r1 r2' W' := by
  obtain ⟨a9, cs, hps, hsb, hso⟩ := h.ls
  obtain ⟨ad, cd, hCd, hdb, hdo⟩ := h.rb
  have hda := o.da
  have hah := o.ah
  refine ⟨h.low.trans (belowGrown hg h.low.size hCd), Nat.le_trans h.hpW hg.size, h.l1, hn, hl, ⟨a9, cs, hps, boxGrown hsb hdb (by decide) hg, rowGrown hso hdb (by decide) hg⟩, h.db.grown hdb (by decide) (by decide) hg, ?_, ?_⟩
  · exact fun wx hx => h.si wx fun k h1 h2 => (hx k h1 h2).trans (hg.block k (Nat.lt_of_lt_of_le h2 h.hpW) (by simp; omega))
  · exact fun wx hx => h.sr wx fun k h1 h2 => (hx k h1 h2).trans (hg.block k (Nat.lt_trans h2 (boxLt hdb)) (by simp; omega))
theorem Two.drew {p : TP} {r1 r2 : List Bool} {W : World} (o : TPOk p) (h : Two p r1 r2 W) : Two p r1 r2 W.drew := h.below o (Below.refl _ _).drew

/-- What a cycle lets out; what it leaves. -/
def dvOut (p : TP) (r : List Bool) (gv : List Int) : List Int := dOut p.outs (p.L.outV r (dIn p.ins gv p.n)) p.m
def dvNext (p : TP) (r : List Bool) (gv : List Int) : List Bool := p.L.next r (dIn p.ins gv p.n)
theorem dvNext_len (p : TP) (o : TPOk p) (r : List Bool) (gv : List Int) : (dvNext p r gv).length = p.nr := by
  unfold dvNext
  rw [LN.next_len, o.hnr]
section
variable {p : TP} {r1 r2 : List Bool} {W : World} (o : TPOk p)
include o
theorem two_step1 {ag : Option Addr} {cg ng : Nat} {gv : List Int} (h : Two p r1 r2 W) (hgl : gv.length = ng) (hng : ng ≤ 30) (hcg : Cells p.w0.heap.size p.w0 ag ng (fun j => .int .i64 (gv.getD j 0))) :
    Calls Tryd.prog 26 #[.pointer (some ⟨p.q, 0, none⟩), .slice ag ng cg] W fun e w' =>
      ∃ v, e = .returned v ∧ w'.ownsRow W.heap.size 3 1 v p.m ((dvOut p r1 gv).map (.int .i64)) ∧ Two p (dvNext p r1 gv) r2 w' ∧ W.grownBy w' (some p.s) := by
  refine (DStep_any p.hp p.q p.s p.b p.n p.m ng p.y p.L p.ai p.ao ag p.ci p.co cg p.ins p.outs gv r1 W h.db (h.si W fun _ _ _ => rfl) h.ls h.hpW o.right (h.l1.trans o.hnr.symm) o.hni o.hno o.hn20 o.hm20 o.hol hgl hng ((hcg.stay h.low).mono h.low.size)).mono ?_
  rintro e w' ⟨v, rfl, hv, hs, hg⟩
  exact ⟨v, rfl, hv, h.sim o hs (dvNext_len p o r1 gv) hg, hg⟩
theorem two_step2 {ag : Option Addr} {cg ng : Nat} {gv : List Int} (h : Two p r1 r2 W) (hgl : gv.length = ng) (hng : ng ≤ 30) (hcg : Cells p.w0.heap.size p.w0 ag ng (fun j => .int .i64 (gv.getD j 0))) :
    Calls Tryd.prog 27 #[.pointer (some ⟨p.d, 0, none⟩), .slice ag ng cg] W fun e w' =>
      ∃ v, e = .returned v ∧ w'.ownsRow W.heap.size 3 1 v p.m ((dvOut p r2 gv).map (.int .i64)) ∧ Two p r1 (dvNext p r2 gv) w' ∧ W.grownBy w' (some p.d) := by
  refine (RDStep_any p.w0.heap.size W.heap.size p.w0.heap.size p.d p.n p.m ng p.y1 p.L p.ei p.eo ag p.ki p.ko cg p.ins p.outs gv r2 W h.rb (h.sr W fun _ _ _ => rfl) (Nat.le_refl _) (Nat.le_refl _) h.low.size o.right (h.l2.trans o.hnr.symm) (o.ci.stay h.low) (o.co.stay h.low) o.hn20 o.hm20 o.hol hgl hng ((hcg.stay h.low).mono h.low.size)).mono ?_
  rintro e w' ⟨v, rfl, hv, hs, hg⟩
  exact ⟨v, rfl, hv, h.doc o hs (dvNext_len p o r2 gv) hg, hg⟩
theorem two_save1 (h : Two p r1 r2 W) : Calls Tryd.prog 28 #[.pointer (some ⟨p.q, 0, none⟩)] W fun e w' => e = .returned (.string (sv r1)) ∧ Two p r1 r2 w' ∧ Below W.heap.size W w' := by
  refine (DSave_any p.hp p.q p.s p.b p.nr _ _ r1 W h.db.box h.ls h.l1 o.hr).mono ?_
  rintro e w' ⟨rfl, hb⟩
  exact ⟨rfl, h.below o hb, hb⟩
theorem two_save2 (h : Two p r1 r2 W) : Calls Tryd.prog 29 #[.pointer (some ⟨p.d, 0, none⟩)] W fun e w' => e = .returned (.string (sv r2)) ∧ Two p r1 r2 w' ∧ Below W.heap.size W w' := by
  refine (RSave_any _ p.d p.nr _ _ _ _ _ _ r2 W h.rb h.l2 o.hr).mono ?_
  rintro e w' ⟨rfl, hb⟩
  exact ⟨rfl, h.below o hb, hb⟩
theorem two_same {a a' : Option Addr} {n c c' : Nat} {l : List Int} (h : Two p r1 r2 W) (hm : n ≤ maxLen) (hx : Cells W.heap.size W a n (fun i => .int .i64 (l.getD i 0))) (hy : Cells W.heap.size W a' n (fun i => .int .i64 (l.getD i 0))) :
    Calls Tryd.prog 25 #[.slice a n c, .slice a' n c'] W fun e w' => e = .returned (.bool true) ∧ Two p r1 r2 w' := by
  refine (sameInts_same _ a a' n c c' l W (Nat.le_refl _) hm hx hy).mono ?_
  rintro e w' ⟨rfl, hb⟩
  exact ⟨rfl, h.below o hb⟩
theorem two_load1 {t : ByteArray} (h : Two p r1 r2 W) (hm : t.size ≤ 1000000) (he : ldErr t p.nr = 0) (hl : t.size = p.nr) : Calls Tryd.prog 30 #[.pointer (some ⟨p.q, 0, none⟩), .string t] W fun e w' => e = .returned .nilIface ∧ Two p (ld t) r2 w' := by
  refine (DLoad_any p.hp p.q p.s p.b p.nr _ _ r1 t W h.db.box h.ls h.hpW h.l1 hm).mono ?_
  intro e w' hpost
  unfold DLoadPost at hpost
  rw [if_pos he] at hpost
  obtain ⟨rfl, hs, hg⟩ := hpost
  exact ⟨rfl, h.sim o hs ((ld_len t).trans hl) hg⟩
theorem two_load1_no {t : ByteArray} (h : Two p r1 r2 W) (hm : t.size ≤ 1000000) (he : ldErr t p.nr ≠ 0) : Calls Tryd.prog 30 #[.pointer (some ⟨p.q, 0, none⟩), .string t] W fun e w' => e = .returned (.iface 33 (.int .i64 (ldErr t p.nr))) ∧ Two p r1 r2 w' := by
  refine (DLoad_any p.hp p.q p.s p.b p.nr _ _ r1 t W h.db.box h.ls h.hpW h.l1 hm).mono ?_
  intro e w' hpost
  unfold DLoadPost at hpost
  rw [if_neg he] at hpost
  obtain ⟨rfl, hb⟩ := hpost
  exact ⟨rfl, h.below o hb⟩
theorem two_load2 {t : ByteArray} (h : Two p r1 r2 W) (hm : t.size ≤ 1000000) (he : ldErr t p.nr = 0) (hl : t.size = p.nr) : Calls Tryd.prog 31 #[.pointer (some ⟨p.d, 0, none⟩), .string t] W fun e w' => e = .returned (.int .i64 0) ∧ Two p r1 (ld t) w' := by
  refine (RLoad_any _ p.d p.nr _ _ _ _ _ _ r2 t W h.rb h.low.size h.l2 hm).mono ?_
  intro e w' hpost
  unfold RLoadPost at hpost
  rw [if_pos he] at hpost
  obtain ⟨rfl, hs, hg⟩ := hpost
  exact ⟨rfl, h.doc o hs ((ld_len t).trans hl) hg⟩
theorem two_load2_no {t : ByteArray} (h : Two p r1 r2 W) (hm : t.size ≤ 1000000) (he : ldErr t p.nr ≠ 0) : Calls Tryd.prog 31 #[.pointer (some ⟨p.d, 0, none⟩), .string t] W fun e w' => e = .returned (.int .i64 (ldErr t p.nr)) ∧ Two p r1 r2 w' := by
  refine (RLoad_any _ p.d p.nr _ _ _ _ _ _ r2 t W h.rb h.low.size h.l2 hm).mono ?_
  intro e w' hpost
  unfold RLoadPost at hpost
  rw [if_neg he] at hpost
  obtain ⟨rfl, hb⟩ := hpost
  exact ⟨rfl, h.below o hb⟩
end
end Go.Proofs.YtlaeflpddehipabDoor
end
section
set_option linter.unusedVariables false
namespace Go.Proofs.YtlaeflpddehipabDoor
open Go.RowKit Go.ChangeShapes Go.WideShapes Go.ChangeAt

/-- Rows of ints, one behind the other. -/
structure IntRows (B : Nat) (w : World) (a : Option Addr) (gs : List (List Int)) (A : Nat → Option Addr) (C : Nat → Nat) : Prop where
  heads : Cells B w a gs.length (fun j => .slice (A j) (gs.getD j []).length (C j))
  rows : ∀ i, i < gs.length → Cells B w (A i) (gs.getD i []).length (fun j => .int .i64 ((gs.getD i []).getD j 0))
  lens : ∀ i, (gs.getD i []).length ≤ maxLen
theorem IntRows.stay {B : Nat} {w w' : World} {a : Option Addr} {gs : List (List Int)} {A : Nat → Option Addr} {C : Nat → Nat} (h : IntRows B w a gs A C) (hb : Below B w w') : IntRows B w' a gs A C :=
  ⟨h.heads.stay hb, fun i hi => (h.rows i hi).stay hb, h.lens⟩

section
variable {H : Type} {enc : TypeId × Value → H} {w : World} {held : Bool}

theorem Tryd.oneInt : Tryd.prog.cellsOf 3 = 1 := by kernel_rfl
theorem Tryd.oneInts : Tryd.prog.cellsOf 24 = 1 := by kernel_rfl

set_option maxRecDepth 100000 in
/-- What is known of a slice of slices of ints that reads. -/
theorem open_introws {fuel : Nat} {cs : List Value} {x : DataW H × List MemPlace} (h : DataW.trod enc Tryd.prog w 0 (fun _ => true) held fuel 66 cs = some x) :
    ∃ (a : Option Addr) (c : Nat) (gs : List (List Int)) (A : Nat → Option Addr) (C : Nat → Nat), cs = [.slice a gs.length c] ∧ (a = none → gs.length = 0 ∧ c = 0) ∧ IntRows w.heap.size w a gs A C ∧ gs.length ≤ maxLen := by
  obtain ⟨a, n, c, V, rfl, ha, hn, hcm, hV, hcells⟩ := open_row Tryd.underlying66 Tryd.oneInts (by omega) h
  have hb : ∀ i, i < n → ∃ z : Option Addr × Nat × List Int, V i = [.slice z.1 z.2.2.length z.2.1] ∧ (z.1 = none → z.2.2.length = 0 ∧ z.2.1 = 0) ∧ z.2.2.length ≤ maxLen ∧ Cells w.heap.size w z.1 z.2.2.length (fun i => .int .i64 (z.2.2.getD i 0)) := by
    intro i hi
    obtain ⟨hlen, m, y, hy⟩ := hV i hi
    obtain ⟨a, c, l, e, h1, h2, h3, h4, h5⟩ := open_introw Tryd.underlying24 Tryd.underlying3 Tryd.oneInt hy
    exact ⟨(a, c, l), e, h1, Nat.le_trans h2 h3, h5⟩
  obtain ⟨f, hf⟩ := Deep.choose_lt (α := Option Addr × Nat × List Int) hb
  have hget : ∀ i, i < n → ((List.range n).map fun i => (f i).2.2).getD i [] = (f i).2.2 := by
    intro i hi
    simp [List.getD_eq_getElem?_getD, hi]
  refine ⟨a, c, (List.range n).map fun i => (f i).2.2, fun i => (f i).1, fun i => (f i).2.1, by simp, by simpa using ha, ⟨?_, ?_, ?_⟩, by simpa using Nat.le_trans hn hcm⟩
  · have hlen : ((List.range n).map fun i => (f i).2.2).length = n := by simp
    rw [hlen]
    rw [Nat.mul_one] at hcells
    refine hcells.congr fun j hj => ?_
    rw [hget j hj]
    simp [Nat.mod_one, (hf j hj).1]
  · intro i hi
    have hi' : i < n := by simpa using hi
    rw [hget i hi']
    exact (hf i hi').2.2.2
  · intro i
    by_cases hi : i < n
    · rw [hget i hi]; exact (hf i hi).2.2.1
    · rw [List.getD_eq_getElem?_getD, List.getElem?_eq_none (by simp; omega)]
      exact Nat.zero_le _
end
end Go.Proofs.YtlaeflpddehipabDoor
end
section
set_option linter.unusedVariables false
namespace Go.Proofs.YtlaeflpddehipabDoor
open Go.RowKit Go.Stop Go.Extern.Stop Go.Extern

theorem no_unwrap (v : Value) (xT : TypeId) (w : World) : (Instr.typeAssert (.iface 33 v) xT 184 true).run Tryd.prog w = .ok (.tuple #[.nilIface, .bool false]) w :=
  run_typeAssert_lacksB Tryd.underlying184 (by kernel_rfl) (by kernel_rfl) v xT w
theorem no_at (k : Int) (xT : TypeId) (w : World) : (Instr.typeAssert (.iface 33 (.int .i64 k)) xT 181 true).run Tryd.prog w = .ok (.tuple #[.pointer none, .bool false]) w := by kernel_rfl
set_option maxHeartbeats 800000 in
theorem Place_nil (w : World) : Calls Tryd.prog 70 #[.nilIface] w fun e w' => e = .returned (.tuple #[.int .i64 0, .int .i64 (-1)]) ∧ Below w.heap.size w w' := by
  go_enter Tryd.func70, Tryd.ntmps70
  go_wp2_with (go_at_call 18; (with_reducible refine (Tell_nil w).mono ?_); rintro e w1 ⟨rfl, rfl⟩)
  go_loopw [0] (fun v wr => v = .nilIface ∧ Below w1.heap.size w1 wr) (fun _ _ => 0)
  case atStart => exact ⟨rfl, Below.refl _ _⟩
  case round =>
    obtain ⟨rfl, hb⟩ := hrel
    have HB := hid hb
    clear hb
    go_wp2_with fail
    go_ret2
    exact ⟨rfl, HB.out⟩
set_option maxHeartbeats 800000 in
set_option maxRecDepth 10000 in
theorem Place_errno (k : Int) (w : World) (hg : ErrType w) : Calls Tryd.prog 70 #[.iface 33 (.int .i64 k)] w fun e w' => e = .returned (.tuple #[.int .i64 k, .int .i64 (-1)]) ∧ Below w.heap.size w w' := by
  have HG := hid hg
  have hnu := no_unwrap
  have hna := no_at
  clear hg
  go_enter Tryd.func70, Tryd.ntmps70
  go_wp2_with (go_at_call 18; (with_reducible refine (Tell_errno k w HG.out).mono ?_); rintro e w1 ⟨rfl, hb⟩; have HB1 := hid hb; clear hb)
  go_loopw [0] (fun v wr => v = .iface 33 (.int .i64 k) ∧ Below w.heap.size w wr) (fun _ _ => 0)
  case atStart => exact ⟨rfl, HB1.out⟩
  case round =>
    obtain ⟨rfl, hb⟩ := hrel
    have HB := hid hb
    clear hb
    go_wp2_with fail
    go_ret2
    exact ⟨rfl, HB.out⟩
theorem Bare_any (k : Int) (w : World) : Calls Tryd.prog 43 #[.int .i64 k] w fun e w' => e = .returned (.agg #[.int .i64 k, .int .i64 (-1)]) ∧ Below w.heap.size w w' := by
  go_enter Tryd.func43, Tryd.ntmps43
  go_wp2
  refine bodyPost_ret (v := .agg #[.int .i64 k, .int .i64 (-1)]) (results_cell_row rfl _ _ w.heap.size 97 _ (0, 0) _ rfl (heap_alloc_new w _) Tryd.underlying97 rfl (by kernel_rfl)) rfl ⟨rfl, (Below.refl _ _).alloc (Nat.le_refl _) _⟩
set_option maxHeartbeats 800000 in
/-- An Errno is that Errno, without a place. -/
theorem is_same (k : Int) (w : World) (hg : ErrType w) : Calls Tryd.prog 42 #[.iface 33 (.int .i64 k), .agg #[.int .i64 k, .int .i64 (-1)]] w fun e w' => e = .returned (.bool true) ∧ Below w.heap.size w w' := by
  obtain ⟨w0, hw0⟩ : ∃ w0, w.alloc (.cells #[.int .i64 k, .int .i64 (-1)] 97) = w0 := ⟨_, rfl⟩
  have hb1 : Below w.heap.size w w0 := by rw [← hw0]; exact (Below.refl _ _).alloc (Nat.le_refl _) _
  have hsz : w0.heap.size = w.heap.size + 1 := by rw [← hw0]; simp
  have hbox : w0.heap[w.heap.size]? = some (.cells #[.int .i64 k, .int .i64 (-1)] 97 (0, 0)) := by rw [← hw0]; exact heap_alloc_new w _
  have HG := hid (hg.stay hb1)
  have HB1 := hid hb1
  have hlt : w.heap.size < w0.heap.size := by omega
  clear hg hb1 hsz
  go_enter Tryd.func42, Tryd.ntmps42
  go_upto_region 1 with fail
  clear hw0
  go_upto_region 2 with (go_at_call 70; (with_reducible refine (Place_errno k w0 HG.out).mono ?_); rintro e w2 ⟨rfl, hb⟩; have HB2 := hid hb; clear hb)
  have hbk := (HB2.out.block _ hlt).trans hbox
  have c0 : w2.cell? ⟨w.heap.size, 0, none⟩ = some (.int .i64 k) := (cell_block hbk 0).trans rfl
  have c1 : w2.cell? ⟨w.heap.size, 1, none⟩ = some (.int .i64 (-1)) := (cell_block hbk 1).trans rfl
  have hd0 : decide (k = k) = true := decide_eq_true rfl
  clear hbk hbox
  go_wp2_with fail
  go_ret
  exact ⟨rfl, HB1.out.trans (HB2.out.mono HB1.out.size)⟩
theorem bare_same (k : Int) (w : World) (hg : ErrType w) : Calls Tryd.prog 10 #[.iface 33 (.int .i64 k), .int .i64 k] w fun e w' => e = .returned (.bool true) ∧ Below w.heap.size w w' := by
  have HG := hid hg
  clear hg
  go_enter Tryd.func10, Tryd.ntmps10
  go_wp2_with (first
    | (go_at_call 43; (with_reducible refine (Bare_any k w).mono ?_); rintro e w1 ⟨rfl, hb⟩; have HB1 := hid hb; clear hb)
    | (go_at_call 42; (with_reducible refine (is_same k w1 (HG.out.stay HB1.out)).mono ?_); rintro e w2 ⟨rfl, hb⟩; have HB2 := hid hb; clear hb))
  go_ret
  exact ⟨rfl, HB1.out.trans (HB2.out.mono HB1.out.size)⟩
end Go.Proofs.YtlaeflpddehipabDoor
end
section
set_option linter.unusedVariables false
namespace Go.Proofs.YtlaeflpddehipabDoor
open Go.RowKit Go.Stop Go.Extern.Stop Go.Extern

set_option maxHeartbeats 800000 in
/-- nil is no fault. -/
theorem is_nil (w : World) : Calls Tryd.prog 42 #[.nilIface, .agg #[.int .i64 0, .int .i64 (-1)]] w fun e w' => e = .returned (.bool true) ∧ Below w.heap.size w w' := by
  obtain ⟨w0, hw0⟩ : ∃ w0, w.alloc (.cells #[.int .i64 0, .int .i64 (-1)] 97) = w0 := ⟨_, rfl⟩
  have hb1 : Below w.heap.size w w0 := by rw [← hw0]; exact (Below.refl _ _).alloc (Nat.le_refl _) _
  have hsz : w0.heap.size = w.heap.size + 1 := by rw [← hw0]; simp
  have hbox : w0.heap[w.heap.size]? = some (.cells #[.int .i64 0, .int .i64 (-1)] 97 (0, 0)) := by rw [← hw0]; exact heap_alloc_new w _
  have HB1 := hid hb1
  have hlt : w.heap.size < w0.heap.size := by omega
  clear hb1 hsz
  go_enter Tryd.func42, Tryd.ntmps42
  go_upto_region 1 with fail
  clear hw0
  go_upto_region 2 with (go_at_call 70; (with_reducible refine (Place_nil w0).mono ?_); rintro e w2 ⟨rfl, hb⟩; have HB2 := hid hb; clear hb)
  have hbk := (HB2.out.block _ hlt).trans hbox
  have c0 : w2.cell? ⟨w.heap.size, 0, none⟩ = some (.int .i64 0) := (cell_block hbk 0).trans rfl
  have c1 : w2.cell? ⟨w.heap.size, 1, none⟩ = some (.int .i64 (-1)) := (cell_block hbk 1).trans rfl
  clear hbk hbox
  go_wp2_with fail
  go_ret
  exact ⟨rfl, HB1.out.trans (HB2.out.mono HB1.out.size)⟩
theorem bare_nil (w : World) : Calls Tryd.prog 10 #[.nilIface, .int .i64 0] w fun e w' => e = .returned (.bool true) ∧ Below w.heap.size w w' := by
  go_enter Tryd.func10, Tryd.ntmps10
  go_wp2_with (first
    | (go_at_call 43; (with_reducible refine (Bare_any 0 w).mono ?_); rintro e w1 ⟨rfl, hb⟩; have HB1 := hid hb; clear hb)
    | (go_at_call 42; (with_reducible refine (is_nil w1).mono ?_); rintro e w2 ⟨rfl, hb⟩; have HB2 := hid hb; clear hb))
  go_ret
  exact ⟨rfl, HB1.out.trans (HB2.out.mono HB1.out.size)⟩
end Go.Proofs.YtlaeflpddehipabDoor
end

/- keep.alike at one net that lies in two places. -/
import Derived.Test.YtlaeflpddehipaaTabled
import Derived.Test.YtlaeflpddehipaaOwnRow
import Derived.Deep.DeepCutAuto
set_option linter.unusedVariables false
namespace Go.Proofs.Ytlaeflpddehipaa
open Go.RowKit
attribute [local go_sem ↓] Go.wp_at_zero Go.wp_at_succ

/-- true comes back; what was there stays. -/
def Same (w : World) (e : Ending) (w' : World) : Prop := e = .returned (.bool true) ∧ Below w.heap.size w w'

set_option maxHeartbeats 800000 in
theorem equal_regs (B : Nat) (a a' : Option Addr) (n c c' : Nat) (l : List LR) (w : World) (hm : n ≤ maxLen) (hx : Cells B w a (n * 2) (regCell l)) (hy : Cells B w a' (n * 2) (regCell l)) :
    Calls Try.prog 63 #[.slice a n c, .slice a' n c'] w (Same w) := by
  unfold maxLen at hm
  have HX := hid hx
  have HY := hid hy
  clear hx hy
  go_enter Try.func63, Try.ntmps63
  go_wp2
  go_loopw [13] (fun i wr => ∃ k q : Nat, k ≤ n ∧ i = .int .i64 k ∧ wr = w.drewN q) (fun i _ => n - (intOf i).toNat)
  case atStart => exact ⟨0, 0, Nat.zero_le _, rfl, rfl⟩
  case round =>
    obtain ⟨k, q, hk, rfl, hwr⟩ := hrel
    have HW := hid hwr
    clear hwr
    by_cases hlt : k < n
    · obtain ⟨b, off, rfl, hB, t0, t1⟩ := HX.out.two k hlt
      obtain ⟨b', off', rfl, hB', u0, u1⟩ := HY.out.two k hlt
      rw [regCell_0] at t0 u0
      rw [regCell_1] at t1 u1
      have h1 : wr.cell? ⟨b, off + k * 2, none⟩ = some (.bool (l.getD k LR.zero).init) := by rw [HW.out]; exact t0
      have h2 : wr.cell? ⟨b, off + k * 2 + 1, none⟩ = some (.int .i64 (l.getD k LR.zero).next) := by rw [HW.out]; exact t1
      have h3 : wr.cell? ⟨b', off' + k * 2, none⟩ = some (.bool (l.getD k LR.zero).init) := by rw [HW.out]; exact u0
      have h4 : wr.cell? ⟨b', off' + k * 2 + 1, none⟩ = some (.int .i64 (l.getD k LR.zero).next) := by rw [HW.out]; exact u1
      generalize l.getD k LR.zero = r at *
      obtain ⟨ri, rn⟩ := r
      simp only at h1 h2 h3 h4
      have hkI : (k : Int) < n := by omega
      have hk0 : (0 : Int) ≤ k := by omega
      clear HX HY t0 t1 u0 u1
      go_wp2
      go_quiet (fail)
      go_wp2
      go_roundw
      case rel => exact ⟨k + 1, _, by omega, by go_num, by rw [HW.out]; exact drewN_add _ _ _⟩
      case measure => simp [intOf]; omega
    · obtain rfl : k = n := by omega
      go_wp2
      go_ret
      rw [HW.out]
      exact ⟨rfl, below_drewN (Below.refl _ _) q⟩

theorem equal_ints_same (B : Nat) (a a' : Option Addr) (n c c' : Nat) (l : List Int) (w : World) (hn : n = l.length) (hm : n ≤ maxLen) (hx : Cells B w a n (fun i => .int .i64 (l.getD i 0))) (hy : Cells B w a' n (fun i => .int .i64 (l.getD i 0))) :
    Calls Try.prog 64 #[.slice a n c, .slice a' n c'] w (Same w) := by
  refine (equal_int B a a' n c n c' l l w hn hn hm hx hy).mono ?_
  rintro e w' h
  obtain ⟨rfl, hb⟩ := h.below
  exact ⟨by simp, hb⟩

set_option maxHeartbeats 800000 in
theorem alike_one (B : Nat) (a a' : Option Addr) (n c c' : Nat) (l : List Int) (t : Int) (w : World) (hB : B ≤ w.heap.size) (hn : n = l.length) (hm : n ≤ maxLen) (hx : Cells B w a n (fun i => .int .i64 (l.getD i 0))) (hy : Cells B w a' n (fun i => .int .i64 (l.getD i 0))) :
    Calls Try.prog 66 #[.agg #[.slice a n c, .int .i64 t], .agg #[.slice a' n c', .int .i64 t]] w (Same w) := by
  have hb1 := (Below.refl w.heap.size w).alloc (Nat.le_refl _) (.cells #[.slice a n c, .int .i64 t] 35)
  have hb2 := hb1.alloc hb1.size (.cells #[.slice a' n c', .int .i64 t] 35)
  have HC := hid (equal_ints_same B a a' n c c' l _ hn hm (hx.stay (hb2.mono hB)) (hy.stay (hb2.mono hB)))
  have HB := hid hb2
  clear hx hy hb1 hb2 hn
  go_enter Try.func66, Try.ntmps66
  go_wp2_with (go_at_call 64; (with_reducible refine HC.out.mono ?_); rintro e w1 ⟨rfl, hb⟩; have HB1 := hid (HB.out.trans (hb.mono HB.out.size)); clear hb)
  go_ret
  exact ⟨rfl, HB1.out⟩

theorem enters_alike : ∀ args w, (callFunc 66 args).run Try.prog w = .ok (.enter 66 args) w := enters_of Try.func66 (by kernel_rfl) rfl

set_option maxHeartbeats 1600000 in
theorem equal_luts (B : Nat) (y y' : Lay) (L : LN) (w : World) (hB : B ≤ w.heap.size) (h : LnRows B w y L) (h' : LnRows B w y' L) :
    Calls Try.prog 65 #[.slice y.al L.luts.length y.cl, .slice y'.al L.luts.length y'.cl, .func (.func 66) #[] #[]] w (Same w) := by
  have hm := h.ll
  unfold maxLen at hm
  have HX := hid h
  have HY := hid h'
  have EN := hid enters_alike
  clear h h'
  obtain ⟨n, hn⟩ : ∃ n, L.luts.length = n := ⟨_, rfl⟩
  have HN := hid hn
  rw [hn] at hm ⊢
  clear hn
  go_enter Try.func65, Try.ntmps65
  go_wp2
  go_loopw [17] (fun i wr => ∃ k : Nat, k ≤ n ∧ i = .int .i64 k ∧ Below w.heap.size w wr) (fun i _ => n - (intOf i).toNat)
  case atStart => exact ⟨0, Nat.zero_le _, rfl, Below.refl _ _⟩
  case round =>
    obtain ⟨k, hk, rfl, hbe⟩ := hrel
    have HBE := hid hbe
    by_cases hlt : k < n
    · have hlt2 : k < L.luts.length := by rw [HN.out]; exact hlt
      have hxw := HX.out.stay (hbe.mono hB)
      have hyw := HY.out.stay (hbe.mono hB)
      obtain ⟨b, off, hal, hb, t0, t1⟩ := hxw.rl.two k hlt2
      obtain ⟨b', off', hal', hb', u0, u1⟩ := hyw.rl.two k hlt2
      rw [lutCell_0] at t0 u0
      rw [lutCell_1] at t1 u1
      have hix := hxw.ri k hlt2
      have hiy := hyw.ri k hlt2
      have hil := hxw.li k
      rw [hal, hal']
      generalize L.luts.getD k LT.zero = t at *
      obtain ⟨ns, tb⟩ := t
      simp only at t0 t1 u0 u1 hix hiy hil
      have hkI : (k : Int) < (n : Int) := by omega
      have hk0 : (0 : Int) ≤ (k : Int) := by omega
      have hsz := hbe.size
      have hbw : b < wr.heap.size := by omega
      have hbw' : b' < wr.heap.size := by omega
      have HIX := hid hix
      have HIY := hid hiy
      have HIL := hid hil
      clear hxw hyw hix hiy hil hbe HX HY
      go_upto_region 7 with fail
      have hb1 := (Below.refl wr.heap.size wr).alloc (Nat.le_refl _) (.cells #[.slice (y.A k) ns.length (y.C k), .int .i64 tb] 35)
      have hb2 := hb1.alloc hb1.size (.cells #[.slice (y'.A k) ns.length (y'.C k), .int .i64 tb] 35)
      have HC := hid (alike_one B (y.A k) (y'.A k) ns.length (y.C k) (y'.C k) ns tb _ (Nat.le_trans hB (Nat.le_trans hsz hb2.size)) rfl HIL.out (HIX.out.stay (hb2.mono (Nat.le_trans hB hsz))) (HIY.out.stay (hb2.mono (Nat.le_trans hB hsz))))
      have HB2 := hid (HBE.out.trans (hb2.mono hsz))
      clear hb1 hb2 t0 t1 u0 u1
      have eg := EN.out
      go_wp2_with (go_at_call 66; (with_reducible refine HC.out.mono ?_); rintro e w1 ⟨rfl, hb⟩; have HB3 := hid (HB2.out.trans (hb.mono HB2.out.size)); clear hb)
      go_roundw
      case rel => exact ⟨k + 1, by omega, by go_num, HB3.out⟩
      case measure => simp [intOf]; omega
    · obtain rfl : k = n := by omega
      go_wp2
      go_ret
      exact ⟨rfl, HBE.out⟩

theorem Same.from {P : Program} {f : FuncId} {args : Array Value} {w W : World} (hb : Below w.heap.size w W) (h : Calls P f args W (Same W)) : Calls P f args W (Same w) := by
  refine h.mono ?_
  rintro e w' ⟨rfl, hb'⟩
  exact ⟨rfl, hb.trans (hb'.mono hb.size)⟩
theorem alike_keep {B b1 b2 : Nat} {y y' : Lay} {L : LN} {w w' : World} (h1 : LnIn B w b1 y L) (h2 : LnIn B w b2 y' L) (hB : B ≤ w.heap.size) (h : Below w.heap.size w w') :
    w'.cell? ⟨b1, 0, none⟩ = some (.int .i64 L.given) ∧ w'.cell? ⟨b1, 1, none⟩ = some (.slice y.ar L.regs.length y.cr) ∧ w'.cell? ⟨b1, 2, none⟩ = some (.slice y.al L.luts.length y.cl) ∧ w'.cell? ⟨b1, 3, none⟩ = some (.slice y.ao L.outs.length y.co) ∧
    w'.cell? ⟨b2, 0, none⟩ = some (.int .i64 L.given) ∧ w'.cell? ⟨b2, 1, none⟩ = some (.slice y'.ar L.regs.length y'.cr) ∧ w'.cell? ⟨b2, 2, none⟩ = some (.slice y'.al L.luts.length y'.cl) ∧ w'.cell? ⟨b2, 3, none⟩ = some (.slice y'.ao L.outs.length y'.co) ∧ Below w.heap.size w w' := by
  have h1' := h1.stay (h.mono hB)
  have h2' := h2.stay (h.mono hB)
  exact ⟨h1'.g, h1'.regs, h1'.luts, h1'.outs, h2'.g, h2'.regs, h2'.luts, h2'.outs, h⟩

set_option maxHeartbeats 3200000 in
theorem alike_any (B b1 b2 : Nat) (y y' : Lay) (L : LN) (w : World) (hB : B ≤ w.heap.size) (h1 : LnIn B w b1 y L) (h2 : LnIn B w b2 y' L) :
    Calls Try.prog 36 #[.pointer (some ⟨b1, 0, none⟩), .pointer (some ⟨b2, 0, none⟩)] w (Same w) := by
  have HR := hid (fun (W : World) (hb : Below w.heap.size w W) => Same.from hb (equal_regs B y.ar y'.ar L.regs.length y.cr y'.cr L.regs W h1.rows.lr (h1.rows.rr.stay (hb.mono hB)) (h2.rows.rr.stay (hb.mono hB))))
  have HO := hid (fun (W : World) (hb : Below w.heap.size w W) => Same.from hb (equal_ints_same B y.ao y'.ao L.outs.length y.co y'.co L.outs W rfl h1.rows.lo (h1.rows.ro.stay (hb.mono hB)) (h2.rows.ro.stay (hb.mono hB))))
  have HL := hid (fun (W : World) (hb : Below w.heap.size w W) => Same.from hb (equal_luts B y y' L W (Nat.le_trans hB hb.size) (h1.rows.stay (hb.mono hB)) (h2.rows.stay (hb.mono hB))))
  have K0 := alike_keep h1 h2 hB (Below.refl _ _)
  have HK := hid (fun (W : World) (hb : Below w.heap.size w W) => alike_keep h1 h2 hB hb)
  have hbS := Below.refl w.heap.size w
  have hbD := (Below.refl w.heap.size w).drew
  clear h1 h2
  generalize L.given = g at *
  generalize L.regs.length = nr at *
  generalize L.luts.length = nl at *
  generalize L.outs.length = no at *
  go_enter Try.func36, Try.ntmps36
  go_wp2_with fail
  go_region_held3 (fun w' => w'.cell? ⟨b1, 0, none⟩ = some (.int .i64 g) ∧ w'.cell? ⟨b1, 1, none⟩ = some (.slice y.ar nr y.cr) ∧ w'.cell? ⟨b1, 2, none⟩ = some (.slice y.al nl y.cl) ∧ w'.cell? ⟨b1, 3, none⟩ = some (.slice y.ao no y.co) ∧ w'.cell? ⟨b2, 0, none⟩ = some (.int .i64 g) ∧ w'.cell? ⟨b2, 1, none⟩ = some (.slice y'.ar nr y'.cr) ∧ w'.cell? ⟨b2, 2, none⟩ = some (.slice y'.al nl y'.cl) ∧ w'.cell? ⟨b2, 3, none⟩ = some (.slice y'.ao no y'.co) ∧ Below w.heap.size w w')
    ((refine HK.out _ ?_; first | assumption | (refine Below.drew ?_; assumption) | fail))
    (first
      | (go_at_call 63; (with_reducible refine (HR.out _ (by first | assumption | fail)).mono ?_); rintro e w1 ⟨rfl, hb1⟩)
      | (go_at_call 64; (with_reducible refine (HO.out _ hb1).mono ?_); rintro e w2 ⟨rfl, hb2⟩)
      | (go_at_call 65; (with_reducible refine (HL.out _ hb2).mono ?_); rintro e w3 ⟨rfl, hb3⟩)
      | fail)
  go_wp2_with fail
  go_ret
  exact ⟨rfl, hb3⟩
end Go.Proofs.Ytlaeflpddehipaa

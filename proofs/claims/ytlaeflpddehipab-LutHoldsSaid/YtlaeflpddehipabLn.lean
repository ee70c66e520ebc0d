/- Nets of tables in memory; what may be. -/
import Derived.Test.YtlaeflpddehipabIndexF
import Derived.Test.YtlaeflpddehipabEqual
import Derived.Test.YtlaeflpddehipabBits
import Derived.RegionTactic
import Derived.IntWalk
set_option linter.unusedVariables false
namespace Go.Proofs.Ytlaeflpddehipab
open Go.RowKit

/-- A table, a register, a net of tables. -/
structure LT where
  ins : List Int
  table : Int
  deriving DecidableEq, Inhabited
structure LR where
  init : Bool
  next : Int
  deriving DecidableEq, Inhabited
structure LN where
  given : Int
  regs : List LR
  luts : List LT
  outs : List Int
def LT.zero : LT := ⟨[], 0⟩
def LR.zero : LR := ⟨false, 0⟩
def regCell (l : List LR) (j : Nat) : Value := if j % 2 = 0 then .bool (l.getD (j / 2) LR.zero).init else .int .i64 (l.getD (j / 2) LR.zero).next
def lutCell (l : List LT) (A : Nat → Option Addr) (C : Nat → Nat) (j : Nat) : Value := if j % 2 = 0 then .slice (A (j / 2)) (l.getD (j / 2) LT.zero).ins.length (C (j / 2)) else .int .i64 (l.getD (j / 2) LT.zero).table

/-- Where a net of tables lies: the addresses and capacities of its rows. -/
structure Lay where
  ar : Option Addr
  cr : Nat
  al : Option Addr
  cl : Nat
  ao : Option Addr
  co : Nat
  A : Nat → Option Addr
  C : Nat → Nat

structure LnRows (B : Nat) (w : World) (y : Lay) (L : LN) : Prop where
  rr : Cells B w y.ar (L.regs.length * 2) (regCell L.regs)
  rl : Cells B w y.al (L.luts.length * 2) (lutCell L.luts y.A y.C)
  ri : ∀ i, i < L.luts.length → Cells B w (y.A i) (L.luts.getD i LT.zero).ins.length (fun j => .int .i64 ((L.luts.getD i LT.zero).ins.getD j 0))
  ro : Cells B w y.ao L.outs.length (fun i => .int .i64 (L.outs.getD i 0))
  lr : L.regs.length ≤ maxLen
  ll : L.luts.length ≤ maxLen
  li : ∀ i, (L.luts.getD i LT.zero).ins.length ≤ maxLen
  lo : L.outs.length ≤ maxLen

structure LnIn (B : Nat) (w : World) (b : Nat) (y : Lay) (L : LN) : Prop where
  g : w.cell? ⟨b, 0, none⟩ = some (.int .i64 L.given)
  regs : w.cell? ⟨b, 1, none⟩ = some (.slice y.ar L.regs.length y.cr)
  luts : w.cell? ⟨b, 2, none⟩ = some (.slice y.al L.luts.length y.cl)
  outs : w.cell? ⟨b, 3, none⟩ = some (.slice y.ao L.outs.length y.co)
  rows : LnRows B w y L
  hb : b < B

theorem LnRows.stay {B : Nat} {w w' : World} {y : Lay} {L : LN} (h : LnRows B w y L) (hb : Below B w w') : LnRows B w' y L :=
  ⟨h.rr.stay hb, h.rl.stay hb, fun i hi => (h.ri i hi).stay hb, h.ro.stay hb, h.lr, h.ll, h.li, h.lo⟩
theorem LnRows.mono {B B' : Nat} {w : World} {y : Lay} {L : LN} (h : LnRows B w y L) (hb : B ≤ B') : LnRows B' w y L :=
  ⟨h.rr.mono hb, h.rl.mono hb, fun i hi => (h.ri i hi).mono hb, h.ro.mono hb, h.lr, h.ll, h.li, h.lo⟩
theorem LnIn.stay {B : Nat} {w w' : World} {b : Nat} {y : Lay} {L : LN} (h : LnIn B w b y L) (hb : Below B w w') : LnIn B w' b y L where
  g := (hb.cell (p := ⟨b, 0, none⟩) h.hb).trans h.g
  regs := (hb.cell (p := ⟨b, 1, none⟩) h.hb).trans h.regs
  luts := (hb.cell (p := ⟨b, 2, none⟩) h.hb).trans h.luts
  outs := (hb.cell (p := ⟨b, 3, none⟩) h.hb).trans h.outs
  rows := h.rows.stay hb
  hb := h.hb
theorem LnIn.mono {B B' : Nat} {w : World} {b : Nat} {y : Lay} {L : LN} (h : LnIn B w b y L) (hb : B ≤ B') : LnIn B' w b y L :=
  ⟨h.g, h.regs, h.luts, h.outs, h.rows.mono hb, Nat.lt_of_lt_of_le h.hb hb⟩

theorem Cells.two {B : Nat} {w : World} {a : Option Addr} {n : Nat} {f : Nat → Value} (h : Cells B w a (n * 2) f) (i : Nat) (hi : i < n) :
    ∃ b off, a = some ⟨b, off, none⟩ ∧ b < B ∧ w.cell? ⟨b, off + i * 2, none⟩ = some (f (i * 2)) ∧ w.cell? ⟨b, off + i * 2 + 1, none⟩ = some (f (i * 2 + 1)) := by
  obtain ⟨b, off, ha, hB, hc⟩ := h.at (by omega)
  refine ⟨b, off, ha, hB, hc _ (by omega), ?_⟩
  rw [Nat.add_assoc]
  exact hc _ (by omega)
theorem lutCell_0 (l : List LT) (A : Nat → Option Addr) (C : Nat → Nat) (i : Nat) : lutCell l A C (i * 2) = .slice (A i) (l.getD i LT.zero).ins.length (C i) := by
  unfold lutCell
  rw [if_pos (by omega), show i * 2 / 2 = i by omega]
theorem lutCell_1 (l : List LT) (A : Nat → Option Addr) (C : Nat → Nat) (i : Nat) : lutCell l A C (i * 2 + 1) = .int .i64 (l.getD i LT.zero).table := by
  unfold lutCell
  rw [if_neg (by omega), show (i * 2 + 1) / 2 = i by omega]
theorem regCell_0 (l : List LR) (i : Nat) : regCell l (i * 2) = .bool (l.getD i LR.zero).init := by
  unfold regCell
  rw [if_pos (by omega), show i * 2 / 2 = i by omega]
theorem regCell_1 (l : List LR) (i : Nat) : regCell l (i * 2 + 1) = .int .i64 (l.getD i LR.zero).next := by
  unfold regCell
  rw [if_neg (by omega), show (i * 2 + 1) / 2 = i by omega]

/-! ### which nets of tables may be -/
def LN.sizes (L : LN) : Bool := decide (0 ≤ L.given) && decide (max (max (max L.given L.regs.length) L.luts.length) L.outs.length ≤ 20000)
def LN.signals (L : LN) : Int := L.given + L.regs.length + L.luts.length
def badB (s : Int) (k : Int) : Bool := decide (k < 0) || decide (s ≤ k)
def LN.insBad (L : LN) (i : Nat) : Bool := (List.range (L.luts.getD i LT.zero).ins.length).any fun j => badB (L.given + L.regs.length + i) ((L.luts.getD i LT.zero).ins.getD j 0)
def LN.lutBad (L : LN) (i : Nat) : Bool :=
  let t := L.luts.getD i LT.zero
  decide (4 < t.ins.length) || decide (t.table < 0) || decide ((2 : Int) ^ (2 ^ t.ins.length) ≤ t.table) || L.insBad i
def LN.outsBad (L : LN) : Bool := (List.range L.outs.length).any fun j => badB L.signals (L.outs.getD j 0)
def LN.regsBad (L : LN) : Bool := (List.range L.regs.length).any fun j => badB L.signals (L.regs.getD j LR.zero).next
def LN.right (L : LN) : Bool := L.sizes && (List.range L.luts.length).all (fun i => !L.lutBad i) && !L.outsBad && !L.regsBad

theorem LN.sizes_of {L : LN} (h : L.sizes = true) : 0 ≤ L.given ∧ L.given ≤ 20000 ∧ L.regs.length ≤ 20000 ∧ L.luts.length ≤ 20000 ∧ L.outs.length ≤ 20000 := by
  unfold LN.sizes at h
  simp only [Bool.and_eq_true, decide_eq_true_eq] at h
  omega

theorem wrap_fit (n : Int) (h0 : -9223372036854775808 ≤ n) (h1 : n ≤ 9223372036854775807) : IntKind.i64.wrap n = n := by
  rw [IntKind.wrap_i64]; omega

set_option maxHeartbeats 400000 in
theorem signals_any (B b : Nat) (y : Lay) (L : LN) (w : World) (h : LnIn B w b y L) (hs : L.sizes = true) :
    Calls Try.prog 16 #[.pointer (some ⟨b, 0, none⟩)] w fun e w' => e = .returned (.int .i64 L.signals) ∧ ∃ q, w' = w.drewN q := by
  have hz := LN.sizes_of hs
  have E : Hid (L.signals = L.given + L.regs.length + L.luts.length) := rfl
  have c0 := h.g
  have c1 := h.regs
  have c2 := h.luts
  generalize L.signals = sg at E ⊢
  generalize L.given = g at *
  generalize L.regs.length = r at *
  generalize L.luts.length = l at *
  clear h hs
  obtain ⟨hz0, hz1, hz2, hz3, hz4⟩ := hz
  have w1 : IntKind.i64.wrap (g + (r : Int)) = g + r := wrap_fit _ (by omega) (by omega)
  have w2 : IntKind.i64.wrap (g + (r : Int) + (l : Int)) = g + r + l := wrap_fit _ (by omega) (by omega)
  go_enter Try.func16, Try.ntmps16
  go_wp2
  go_quiet (fail)
  go_wp2
  go_ret
  exact ⟨ret_int (by rw [E.out]), _, rfl⟩
end Go.Proofs.Ytlaeflpddehipab

/- What comes of a net of tables: a cycle, how deep it lies. No program in sight. -/
import Derived.Test.YtlaeflpddehipabLn
set_option linter.unusedVariables false
namespace Go.Proofs.Ytlaeflpddehipab
/-! ### a cycle of a net of tables -/
/-- What the first i signals of a table tell, as a number. -/
def atTo (v : List Bool) (ins : List Int) : Nat → Nat
  | 0 => 0
  | i + 1 => atTo v ins i + if v.getD (ins.getD i 0).toNat false then 2 ^ i else 0
theorem atTo_lt (v : List Bool) (ins : List Int) : ∀ i, atTo v ins i < 2 ^ i
  | 0 => by simp [atTo]
  | i + 1 => by
    have h := atTo_lt v ins i
    unfold atTo
    rw [Nat.pow_succ]
    split <;> omega
/-- What comes of a table. -/
def lutBit (t : LT) (v : List Bool) : Bool := decide (t.table / 2 ^ atTo v t.ins t.ins.length % 2 = 1)
def LN.bitsIn (L : LN) (given : List Bool) (k : Nat) : List Bool := (List.range k).map fun i => given.getD i false
def LN.valsTo (L : LN) (regs given : List Bool) : Nat → List Bool
  | 0 => L.bitsIn given L.given.toNat ++ regs
  | i + 1 => L.valsTo regs given i ++ [lutBit (L.luts.getD i LT.zero) (L.valsTo regs given i)]
def LN.vals (L : LN) (regs given : List Bool) : List Bool := L.valsTo regs given L.luts.length
def LN.next (L : LN) (regs given : List Bool) : List Bool := L.regs.map fun r => (L.vals regs given).getD r.next.toNat false
def LN.outV (L : LN) (regs given : List Bool) : List Bool := L.outs.map fun k => (L.vals regs given).getD k.toNat false
def LN.first (L : LN) : List Bool := L.regs.map fun r => r.init
theorem LN.bitsIn_len (L : LN) (given : List Bool) (k : Nat) : (L.bitsIn given k).length = k := by simp [LN.bitsIn]
theorem LN.bitsIn_succ (L : LN) (given : List Bool) (k : Nat) : L.bitsIn given (k + 1) = L.bitsIn given k ++ [given.getD k false] := by simp [LN.bitsIn, List.range_succ]
theorem LN.valsTo_len (L : LN) (regs given : List Bool) : ∀ i, (L.valsTo regs given i).length = L.given.toNat + regs.length + i
  | 0 => by simp [LN.valsTo, LN.bitsIn_len]
  | i + 1 => by simp [LN.valsTo, LN.valsTo_len L regs given i]; omega
theorem LN.next_len (L : LN) (regs given : List Bool) : (L.next regs given).length = L.regs.length := by simp [LN.next]
theorem LN.outV_len (L : LN) (regs given : List Bool) : (L.outV regs given).length = L.outs.length := by simp [LN.outV]
theorem LN.first_len (L : LN) : L.first.length = L.regs.length := by simp [LN.first]

/-! ### how deep tables lie -/
def LN.deepAt (L : LN) (D : List Nat) (k : Int) : Nat := D.getD (k.toNat - (L.given.toNat + L.regs.length)) 0
/-- The deepest of the first j signals of a table, where D are the tables' depths so far. Signals that are no tables are of depth 0. -/
def LN.mostTo (L : LN) (f : Nat → Nat) (ins : List Int) : Nat → Nat
  | 0 => 0
  | j + 1 => max (L.mostTo f ins j) (f (ins.getD j 0).toNat)
/-- The signals' depths, when the first i tables are done. -/
def LN.deepTo (L : LN) : Nat → Nat → Nat
  | 0, _ => 0
  | i + 1, s => if s = L.given.toNat + L.regs.length + i then L.mostTo (L.deepTo i) (L.luts.getD i LT.zero).ins (L.luts.getD i LT.zero).ins.length + 1 else L.deepTo i s
def LN.lutDeep (L : LN) (i : Nat) : Nat := L.mostTo (L.deepTo i) (L.luts.getD i LT.zero).ins (L.luts.getD i LT.zero).ins.length + 1
def LN.depthTo (L : LN) : Nat → Nat
  | 0 => 0
  | i + 1 => max (L.depthTo i) (L.lutDeep i)
def LN.depth (L : LN) : Nat := L.depthTo L.luts.length
theorem LN.mostTo_le (L : LN) (f : Nat → Nat) (ins : List Int) (m : Nat) (h : ∀ s, f s ≤ m) : ∀ j, L.mostTo f ins j ≤ m
  | 0 => Nat.zero_le _
  | j + 1 => by
    have h1 := LN.mostTo_le L f ins m h j
    have h2 := h (ins.getD j 0).toNat
    unfold LN.mostTo
    omega
theorem LN.deepTo_le (L : LN) : ∀ i s, L.deepTo i s ≤ i
  | 0, _ => Nat.le_refl _
  | i + 1, s => by
    unfold LN.deepTo
    split
    · have := LN.mostTo_le L (L.deepTo i) (L.luts.getD i LT.zero).ins i (fun s => LN.deepTo_le L i s) (L.luts.getD i LT.zero).ins.length
      omega
    · have := LN.deepTo_le L i s
      omega
theorem LN.deepTo_out (L : LN) : ∀ i s, (s < L.given.toNat + L.regs.length ∨ L.given.toNat + L.regs.length + i ≤ s) → L.deepTo i s = 0
  | 0, _, _ => rfl
  | i + 1, s, h => by
    unfold LN.deepTo
    rw [if_neg (by omega)]
    exact LN.deepTo_out L i s (by omega)
theorem LN.lutDeep_le (L : LN) (i : Nat) : L.lutDeep i ≤ i + 1 := by
  have := LN.mostTo_le L (L.deepTo i) (L.luts.getD i LT.zero).ins i (fun s => LN.deepTo_le L i s) (L.luts.getD i LT.zero).ins.length
  unfold LN.lutDeep
  omega
theorem LN.depthTo_le (L : LN) : ∀ i, L.depthTo i ≤ i
  | 0 => Nat.le_refl _
  | i + 1 => by
    have h1 := LN.depthTo_le L i
    have h2 := L.lutDeep_le i
    unfold LN.depthTo
    omega
end Go.Proofs.Ytlaeflpddehipab

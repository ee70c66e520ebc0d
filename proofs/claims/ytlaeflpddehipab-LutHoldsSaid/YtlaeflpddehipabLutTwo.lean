/- Two simulators of one net of tables: what a step, a look at the registers and a putting of them do. -/
import Derived.Test.YtlaeflpddehipabLsStep
import Derived.Test.YtlaeflpddehipabEqual
import Derived.Test.YtlaeflpddehipabTwMem
set_option linter.unusedVariables false
namespace Go.Proofs.Ytlaeflpddehipab
open Go.RowKit

/-- A simulator beside another one that a call wrote. -/
theorem LSim.grown {C s b s' : Nat} {w w' : World} {l : List Bool} {cs : Array Value} (h : LSim C w s b l) (hg : w.grownBy w' (some s')) (hne : s ≠ s') (hx : w.heap[s']? = some (.cells cs 56 (0, 0))) : LSim C w' s b l := by
  obtain ⟨a, c, h0, h1, h2⟩ := h
  exact ⟨a, c, h0, (hg.block s (boxLt h1) (by simp; exact hne)).trans h1, rowGrown h2 hx (by decide) hg⟩
theorem LSim.box {C s b : Nat} {w : World} {l : List Bool} (h : LSim C w s b l) : ∃ cs, w.heap[s]? = some (.cells cs 56 (0, 0)) := by
  obtain ⟨a, c, h0, h1, h2⟩ := h
  exact ⟨_, h1⟩
theorem LSim.ge {C s b : Nat} {w : World} {l : List Bool} (h : LSim C w s b l) : C ≤ s := by
  obtain ⟨a, c, h0, h1, h2⟩ := h
  exact h0
/-- Two simulators, what each holds. -/
structure LTwo (w0 : World) (C b sA sB : Nat) (y : Lay) (L : LN) (r1 r2 : List Bool) (w : World) : Prop where
  h : LnIn C w b y L
  hC : C ≤ w.heap.size
  hr : L.right = true
  ne : sA ≠ sB
  a : LSim C w sA b r1
  b' : LSim C w sB b r2
  l1 : r1.length = L.regs.length
  l2 : r2.length = L.regs.length
  low : Below w0.heap.size w0 w
  h0 : w0.heap.size ≤ C
section
variable {w0 w w' : World} {C b sA sB : Nat} {y : Lay} {L : LN} {r1 r2 : List Bool}
theorem LTwo.below (h : LTwo w0 C b sA sB y L r1 r2 w) (hb : Below w.heap.size w w') : LTwo w0 C b sA sB y L r1 r2 w' :=
  ⟨h.h.stay (hb.mono h.hC), Nat.le_trans h.hC hb.size, h.hr, h.ne, h.a.stay hb, h.b'.stay hb, h.l1, h.l2, h.low.trans (hb.mono h.low.size), h.h0⟩
theorem LTwo.drew (h : LTwo w0 C b sA sB y L r1 r2 w) : LTwo w0 C b sA sB y L r1 r2 w.drew := h.below (Below.refl _ _).drew
theorem LTwo.small (h : LTwo w0 C b sA sB y L r1 r2 w) : L.regs.length ≤ 20000 ∧ L.outs.length ≤ 20000 := ⟨(LN.good h.hr).r1, (LN.good h.hr).o1⟩
theorem LTwo.cell (h : LTwo w0 C b sA sB y L r1 r2 w) {k o : Nat} {v : Value} (hc : w0.cell? ⟨k, o, none⟩ = some v) (hk : k < w0.heap.size) : w.cell? ⟨k, o, none⟩ = some v := (h.low.cell (p := ⟨k, o, none⟩) hk).trans hc
variable {gv : List Bool} {nv cv : Nat} {av : Option Addr}
theorem LTwo.given (h : LTwo w0 C b sA sB y L r1 r2 w) (hrow : Cells w0.heap.size w0 av nv (fun j => .bool (gv.getD j false))) : Cells w.heap.size w av nv (fun j => .bool (gv.getD j false)) :=
  (hrow.stay h.low).mono h.low.size
/-- A step of the first. -/
theorem two_stepA (no : Nat) (hno : L.outs.length = no) (h : LTwo w0 C b sA sB y L r1 r2 w) (hrow : Cells w0.heap.size w0 av nv (fun j => .bool (gv.getD j false))) (hnv : gv.length = nv) (hm : nv ≤ maxLen) :
    Calls Try.prog 8 #[.pointer (some ⟨sA, 0, none⟩), .slice av nv cv] w fun e w' =>
      ∃ a c, e = .returned (.slice a no c) ∧ w'.ownsRow w.heap.size 4 1 (.slice a no c) no ((L.outV r1 gv).map .bool) ∧ LTwo w0 C b sA sB y L (L.next r1 gv) r2 w' ∧ w.grownBy w' (some sA) := by
  subst hnv hno
  refine (LsStep_wide C C sA b y L w r1 gv av cv h.h (Nat.le_refl _) h.hC h.a h.hr h.l1 (h.given hrow) hm).mono ?_
  rintro e w' ⟨v, rfl, hv, hs, hg⟩
  obtain ⟨a, c, rfl, _⟩ := bitRow hv
  have hb := below_of_grown hg h.hC h.a.ge
  obtain ⟨cs, hx⟩ := h.a.box
  exact ⟨a, c, rfl, hv, ⟨h.h.stay hb, Nat.le_trans h.hC hb.size, h.hr, h.ne, hs, h.b'.grown hg (fun e => h.ne e.symm) hx, L.next_len _ _, h.l2, h.low.trans (hb.mono h.h0), h.h0⟩, hg⟩
/-- A step of the second. -/
theorem two_stepB (no : Nat) (hno : L.outs.length = no) (h : LTwo w0 C b sA sB y L r1 r2 w) (hrow : Cells w0.heap.size w0 av nv (fun j => .bool (gv.getD j false))) (hnv : gv.length = nv) (hm : nv ≤ maxLen) :
    Calls Try.prog 8 #[.pointer (some ⟨sB, 0, none⟩), .slice av nv cv] w fun e w' =>
      ∃ a c, e = .returned (.slice a no c) ∧ w'.ownsRow w.heap.size 4 1 (.slice a no c) no ((L.outV r2 gv).map .bool) ∧ LTwo w0 C b sA sB y L r1 (L.next r2 gv) w' ∧ w.grownBy w' (some sB) := by
  subst hnv hno
  refine (LsStep_wide C C sB b y L w r2 gv av cv h.h (Nat.le_refl _) h.hC h.b' h.hr h.l2 (h.given hrow) hm).mono ?_
  rintro e w' ⟨v, rfl, hv, hs, hg⟩
  obtain ⟨a, c, rfl, _⟩ := bitRow hv
  have hb := below_of_grown hg h.hC h.b'.ge
  obtain ⟨cs, hx⟩ := h.b'.box
  exact ⟨a, c, rfl, hv, ⟨h.h.stay hb, Nat.le_trans h.hC hb.size, h.hr, h.ne, h.a.grown hg h.ne hx, hs, h.l1, L.next_len _ _, h.low.trans (hb.mono h.h0), h.h0⟩, hg⟩
/-- The registers. -/
theorem two_regsA (nr : Nat) (hnr : L.regs.length = nr) (h : LTwo w0 C b sA sB y L r1 r2 w) :
    Calls Try.prog 10 #[.pointer (some ⟨sA, 0, none⟩)] w fun e w' =>
      ∃ a c, e = .returned (.slice a nr c) ∧ w'.ownsRow w.heap.size 4 1 (.slice a nr c) nr (r1.map .bool) ∧ LTwo w0 C b sA sB y L r1 r2 w' ∧ Below w.heap.size w w' := by
  have hs := h.small
  have h1 := h.l1
  refine (LsRegs_any C sA b r1 w h.a (by omega)).mono ?_
  rintro e w' ⟨v, rfl, hv, hb⟩
  rw [h.l1, hnr] at hv
  obtain ⟨a, c, rfl, _⟩ := bitRow hv
  exact ⟨a, c, rfl, hv, h.below hb, hb⟩
theorem two_regsB (nr : Nat) (hnr : L.regs.length = nr) (h : LTwo w0 C b sA sB y L r1 r2 w) :
    Calls Try.prog 10 #[.pointer (some ⟨sB, 0, none⟩)] w fun e w' =>
      ∃ a c, e = .returned (.slice a nr c) ∧ w'.ownsRow w.heap.size 4 1 (.slice a nr c) nr (r2.map .bool) ∧ LTwo w0 C b sA sB y L r1 r2 w' ∧ Below w.heap.size w w' := by
  have hs := h.small
  have h1 := h.l2
  refine (LsRegs_any C sB b r2 w h.b' (by omega)).mono ?_
  rintro e w' ⟨v, rfl, hv, hb⟩
  rw [h.l2, hnr] at hv
  obtain ⟨a, c, rfl, _⟩ := bitRow hv
  exact ⟨a, c, rfl, hv, h.below hb, hb⟩
/-- The second holds what the first does. -/
theorem two_put {base c : Nat} {a : Option Addr} (nr : Nat) (hnr : L.regs.length = nr) (h : LTwo w0 C b sA sB y L r1 r2 w) (hv : w.ownsRow base 4 1 (.slice a nr c) nr (r1.map .bool)) :
    Calls Try.prog 9 #[.pointer (some ⟨sB, 0, none⟩), .slice a nr c] w fun e w' => e = .returned .nilIface ∧ LTwo w0 C b sA sB y L r1 r1 w' := by
  have hs := h.small
  refine (LsPut_right C sB b r2 w w.heap.size a nr c r1 h.b' h.hC (Nat.le_refl _) (h.l1.trans hnr) (hnr.symm.trans h.l2.symm) (bits_cells hv) (ownsNil hv) (by omega)).mono ?_
  rintro e w' ⟨rfl, hs', hg⟩
  have hb := below_of_grown hg h.hC h.b'.ge
  obtain ⟨cs, hx⟩ := h.b'.box
  exact ⟨rfl, ⟨h.h.stay hb, Nat.le_trans h.hC hb.size, h.hr, h.ne, h.a.grown hg h.ne hx, hs', h.l1, h.l1, h.low.trans (hb.mono h.h0), h.h0⟩⟩
/-- Two rows of the same bits are found to be so. -/
theorem two_equal {base base' n c c' : Nat} {a a' : Option Addr} {o : List Bool} (h : LTwo w0 C b sA sB y L r1 r2 w) (hn : o.length = n) (hm : n ≤ 20000) (hx : w.ownsRow base 4 1 (.slice a n c) n (o.map .bool)) (hy : w.ownsRow base' 4 1 (.slice a' n c') n (o.map .bool)) :
    Calls Try.prog 11 #[.slice a n c, .slice a' n c'] w fun e w' => e = .returned (.bool true) ∧ LTwo w0 C b sA sB y L r1 r2 w' := by
  refine (equal_bool w.heap.size a a' n c n c' o o w hn.symm hn.symm (by unfold maxLen; omega) (bits_cells hx) (bits_cells hy)).mono ?_
  intro e w' hs
  obtain ⟨rfl, hb⟩ := hs.below
  exact ⟨by simp, h.below hb⟩
theorem two_keepB {base n : Nat} {v : Value} {xs : List Value} (h : LTwo w0 C b sA sB y L r1 r2 w) (hv : w.ownsRow base 4 1 v n xs) (hg : w.grownBy w' (some sB)) : w'.ownsRow base 4 1 v n xs := by
  obtain ⟨cs, hx⟩ := h.b'.box
  exact rowGrown hv hx (by decide) hg
end
/-- A row of rows that are given. -/
theorem lutRow {w : World} {ag : Option Addr} {gs : List (List Bool)} {A : Nat → Option Addr} {C : Nat → Nat} {n i : Nat} (hg : GivenRows w.heap.size w ag gs A C) (hn : gs.length = n) (hi : i < n) :
    ∃ (bg og : Nat) (gv : List Bool) (nv : Nat) (av : Option Addr) (cv : Nat), ag = some ⟨bg, og, none⟩ ∧ bg < w.heap.size ∧ w.cell? ⟨bg, og + i, none⟩ = some (.slice av nv cv) ∧ Cells w.heap.size w av nv (fun j => .bool (gv.getD j false)) ∧ gv.length = nv ∧ nv ≤ maxLen := by
  subst hn
  obtain ⟨bg, og, e, hbg, hcg⟩ := hg.heads.at (by omega)
  exact ⟨bg, og, gs.getD i [], _, A i, C i, e, hbg, hcg i hi, hg.rows i hi, rfl, hg.lens i⟩
end Go.Proofs.Ytlaeflpddehipab

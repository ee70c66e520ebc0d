/- Expressions: what cells say, and how it lies in memory. -/
import Derived.Test.YtlaeflpddehipabGreatDoorRfPrint
set_option linter.unusedVariables false
set_option linter.unusedSimpArgs false
namespace Go.Proofs.YtlaeflpddehipabGreatDoor
open Go.RowKit

inductive Ex where
  | none
  | node (k line val ty : Int) (nm s5 op : Bs) (l r : Ex)
def exConst (line val : Int) : Ex := .node 1 line val 1 [] [] [] .none .none
def exName (line : Int) (nm : Bs) : Ex := .node 2 line 0 0 nm [] [] .none .none
def exNeg (line : Int) (e : Ex) : Ex := .node 4 line 0 0 [] [] [] e .none
def exOr (line : Int) (a b : Ex) : Ex := .node 5 line 0 0 [] [] [111, 114] a b
def exAnd (line : Int) (a b : Ex) : Ex := .node 5 line 0 0 [] [] [97, 110, 100] a b
def exJn (line : Int) : Ex → Ex → Ex
  | .none, x => x
  | .node k l v t n s o a b, x => exAnd line (.node k l v t n s o a b) x
def exWay (line : Int) : Ex → Ex → Ex
  | .none, x => x
  | .node k l v t n s o a b, x => exOr line (.node k l v t n s o a b) x
def exTop (line : Int) : Ex → Ex
  | .none => exConst line 1
  | .node k l v t n s o a b => .node k l v t n s o a b
def exOne (line : Int) (no : Bool) (nm : Bs) : Ex := if no then exNeg line (exName line nm) else exName line nm
/-- Cells, or ways, behind what is already there. -/
def foldE (line : Int) : Tr → Ex → Ex
  | .nil, acc => acc
  | .one no nm n, acc => foldE line n (exJn line acc (exOne line no nm))
  | .many ws n, acc => foldE line n (exJn line acc (foldE line ws .none))
  | .way l n, acc => foldE line n (exWay line acc (exTop line (foldE line l .none)))
def andE (line : Int) (t : Tr) : Ex := exTop line (foldE line t .none)
theorem foldE_app (line : Int) (u : Tr) : ∀ (t : Tr) (acc : Ex), foldE line (t.app u) acc = foldE line u (foldE line t acc)
  | .nil, acc => rfl
  | .one no nm n, acc => by simp only [Tr.app, foldE]; exact foldE_app line u n _
  | .many ws n, acc => by simp only [Tr.app, foldE]; exact foldE_app line u n _
  | .way l n, acc => by simp only [Tr.app, foldE]; exact foldE_app line u n _
def Ex.Is (e : Ex) : Prop := ∃ k l v t n s o a b, e = .node k l v t n s o a b
theorem exAnd_is (line : Int) (a b : Ex) : (exAnd line a b).Is := ⟨_, _, _, _, _, _, _, _, _, rfl⟩
theorem exOr_is (line : Int) (a b : Ex) : (exOr line a b).Is := ⟨_, _, _, _, _, _, _, _, _, rfl⟩
theorem exOne_is (line : Int) (no : Bool) (nm : Bs) : (exOne line no nm).Is := by
  cases no
  · exact ⟨_, _, _, _, _, _, _, _, _, rfl⟩
  · exact ⟨_, _, _, _, _, _, _, _, _, rfl⟩
theorem exTop_is (line : Int) (e : Ex) : (exTop line e).Is := by
  cases e <;> exact ⟨_, _, _, _, _, _, _, _, _, rfl⟩
theorem exTop_of {line : Int} {e : Ex} (h : e.Is) : exTop line e = e := by
  obtain ⟨k, l, v, t, n, s, o, a, b, rfl⟩ := h
  rfl
theorem exJn_is {line : Int} (a : Ex) {x : Ex} (h : x.Is) : (exJn line a x).Is := by
  cases a with
  | none => exact h
  | node => exact exAnd_is _ _ _
theorem exWay_is {line : Int} (a : Ex) {x : Ex} (h : x.Is) : (exWay line a x).Is := by
  cases a with
  | none => exact h
  | node => exact exOr_is _ _ _
theorem foldE_is (line : Int) : ∀ (t : Tr) (acc : Ex), acc.Is → (foldE line t acc).Is
  | .nil, acc, h => h
  | .one no nm n, acc, h => by
    simp only [foldE]
    exact foldE_is line n _ (exJn_is _ (exOne_is _ _ _))
  | .many ws n, acc, h => by
    simp only [foldE]
    obtain ⟨k, l, v, t, nn, s, o, a, b, rfl⟩ := h
    exact foldE_is line n _ (exAnd_is _ _ _)
  | .way l n, acc, h => by
    simp only [foldE]
    exact foldE_is line n _ (exWay_is _ (exTop_is _ _))
theorem ways_is (line : Int) {ws : Tr} (h : ∃ l m, ws = .way l m) : (foldE line ws .none).Is := by
  obtain ⟨l, m, rfl⟩ := h
  simp only [foldE]
  exact foldE_is line m _ (exTop_is _ _)
theorem cells_is (line : Int) {t : Tr} (hw : t.wf false) (hl : t.len ≠ 0) : (foldE line t .none).Is := by
  cases t with
  | nil => exact absurd rfl hl
  | one no nm n => simp only [foldE]; exact foldE_is line n _ (exOne_is _ _ _)
  | many ws n => simp only [foldE]; exact foldE_is line n _ (ways_is line hw.1)
  | way l n => exact hw.elim

/-- An expression's cells. -/
def eC (k line val ty : Int) (nm s5 op : Bs) (vl vr : Value) : Array Value := #[.int .i64 k, .int .i64 line, .int .i64 val, .int .i64 ty, st nm, st s5, st op, vl, vr]
/-- An expression in memory. -/
def RepE (w : World) (P : Nat → Prop) : Ex → Value → Prop
  | .none, v => v = .pointer none
  | .node k line val ty nm s5 op l r, v => ∃ b vl vr, v = .pointer (some ⟨b, 0, none⟩) ∧ P b ∧ w.heap[b]? = some (.cells (eC k line val ty nm s5 op vl vr) 97 (0, 0)) ∧ RepE w P l vl ∧ RepE w P r vr
theorem RepE.keep {W W' : World} {P P' : Nat → Prop} (hP : ∀ k, P k → P' k ∧ W'.heap[k]? = W.heap[k]?) : ∀ {e : Ex} {v : Value}, RepE W P e v → RepE W' P' e v
  | .none, _, h => h
  | .node .., _, ⟨b, vl, vr, h1, h2, h3, h4, h5⟩ => ⟨b, vl, vr, h1, (hP b h2).1, (hP b h2).2.trans h3, RepE.keep hP h4, RepE.keep hP h5⟩
def RepB (B : Nat) (W : World) (e : Ex) (v : Value) : Prop := RepE W (fun k => B ≤ k ∧ k < W.heap.size) e v
theorem RepB.below {B : Nat} {W W' : World} {e : Ex} {v : Value} (h : RepB B W e v) (hb : Below W.heap.size W W') : RepB B W' e v :=
  RepE.keep (fun k hk => ⟨⟨hk.1, Nat.lt_of_lt_of_le hk.2 hb.size⟩, hb.block k hk.2⟩) h
theorem RepB.base {B B' : Nat} {W : World} {e : Ex} {v : Value} (h : RepB B W e v) (hb : B' ≤ B) : RepB B' W e v :=
  RepE.keep (fun k hk => ⟨⟨Nat.le_trans hb hk.1, hk.2⟩, rfl⟩) h
theorem RepB.none (B : Nat) (W : World) : RepB B W .none (.pointer Option.none) := rfl
theorem RepB.new {B : Nat} {W : World} {l r : Ex} {vl vr : Value} (hl : RepB B W l vl) (hr : RepB B W r vr) (hB : B ≤ W.heap.size) (k line val ty : Int) (nm s5 op : Bs) :
    RepB B (W.alloc (.cells (eC k line val ty nm s5 op vl vr) 97)) (.node k line val ty nm s5 op l r) (.pointer (some ⟨W.heap.size, 0, Option.none⟩)) := by
  have hb : Below W.heap.size W (W.alloc (.cells (eC k line val ty nm s5 op vl vr) 97)) := (Below.refl _ _).alloc (Nat.le_refl _) _
  exact ⟨_, vl, vr, rfl, ⟨hB, by simp⟩, heap_alloc_new W _, hl.below hb, hr.below hb⟩
theorem RepB.ptr {B : Nat} {W : World} {e : Ex} {v : Value} (h : RepB B W e v) (hi : e.Is) : ∃ b, v = .pointer (some ⟨b, 0, Option.none⟩) := by
  obtain ⟨k, l, v, t, n, s, o, a, b, rfl⟩ := hi
  obtain ⟨b, vl, vr, e, _⟩ := h
  exact ⟨b, e⟩
end Go.Proofs.YtlaeflpddehipabGreatDoor

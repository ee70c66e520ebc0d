/- Simulators and rows of bits: used where something else has happened since. -/
import Derived.Test.YtlaeflpddehipabTwMem
set_option linter.unusedVariables false
namespace Go.Proofs.Ytlaeflpddehipab
open Go.RowKit

theorem Bits.stay {w w' : World} {ag : Option Addr} {given : List Bool} {r : Nat} (h : Bits w ag given r) (hb : Below w.heap.size w w') : Bits w' ag given r :=
  ⟨(h.cells.stay hb).mono hb.size, h.apart, h.len⟩


theorem bools_at {l : List Bool} {n j : Nat} (hn : l.length = n) (hj : j < n) : (l.map Value.bool).getD j undef = .bool (l.getD j false) := by
  simp only [List.getD_eq_getElem?_getD, List.getElem?_map]
  rw [List.getElem?_eq_getElem (by omega)]
  rfl
theorem owns_len {w : World} {base e n : Nat} {v : Value} {xs : List Value} (h : w.ownsRow base e 1 v n xs) : xs.length = n := by
  have := h.1
  omega
/-- A row of bits of the call's own, as cells. -/
theorem bits_cells {w : World} {base n c : Nat} {ag : Option Addr} {l : List Bool} (h : w.ownsRow base 4 1 (.slice ag n c) n (l.map .bool)) : Cells w.heap.size w ag n (fun j => .bool (l.getD j false)) := by
  obtain ⟨a, c', e, _, _, hc⟩ := Cells.of_owns h
  cases e
  rw [Nat.mul_one] at hc
  have hl := owns_len h
  rw [List.length_map] at hl
  exact hc.congr fun j hj => bools_at hl hj
theorem bits_owns {w : World} {base n c : Nat} {ag : Option Addr} {l : List Bool} {r : Nat} (h : w.ownsRow base 4 1 (.slice ag n c) n (l.map .bool)) (hr : r < base) (hm : l.length ≤ maxLen) : Bits w ag l r := by
  have hl := owns_len h
  rw [List.length_map] at hl
  refine ⟨?_, ?_, hm⟩
  · rw [hl]; exact bits_cells h
  · rintro bg off rfl _ rfl
    have := (h.lt bg rfl).1
    omega

theorem equal_at {w w' : World} {b1 b2 n1 n2 : Nat} {v1 v2 : Value} {l m : List Bool} {r : Bool} (h1 : w.ownsRow b1 4 1 v1 n1 (l.map .bool)) (h2 : w.ownsRow b2 4 1 v2 n2 (m.map .bool)) (hm : n1 ≤ maxLen) (hr : decide (l = m) = r) (hb : Below w.heap.size w w') :
    Calls Try.prog 11 #[v1, v2] w' fun e w'' => e = .returned (.bool r) ∧ Below w'.heap.size w' w'' := by
  obtain ⟨a, c, rfl⟩ := owns_slice h1
  obtain ⟨a', c', rfl⟩ := owns_slice h2
  have e1 := owns_len h1
  have e2 := owns_len h2
  rw [List.length_map] at e1 e2
  subst hr
  exact (equal_bool w.heap.size a a' n1 c n2 c' l m w' e1.symm e2.symm hm ((bits_cells h1).stay hb) ((bits_cells h2).stay hb)).mono fun e w'' h => h.below

theorem owns_grown {w w' : World} {base e size n r : Nat} {v : Value} {xs : List Value} (h : w.ownsRow base e size v n xs) (hg : w.grownBy w' (some r)) (hr : r < base) : w'.ownsRow base e size v n xs :=
  owns_keep h fun k hk => hg.block k (h.lt k hk).2 (by have := (h.lt k hk).1; simp; omega)

/-- An empty row that was just made. -/
theorem empty_own {B : Nat} (w : World) (e : Nat) (hB : B ≤ w.heap.size) : (w.alloc (.cells #[] e)).ownsRow B e 1 (.slice (some ⟨w.heap.size, 0, none⟩) 0 0) 0 [] :=
  ownsRow_base (World.ownsRow_lit w #[] 0 (Nat.le_refl _) (Nat.zero_le _) (by simp)) hB

theorem bools_one (l : List Bool) : ∀ u ∈ l.map Value.bool, u.oneCell' = true := by
  intro u hu
  obtain ⟨b, _, rfl⟩ := List.mem_map.1 hu
  rfl
theorem own_pad {w : World} {base e n G : Nat} {v : Value} {l : List Bool} (h : w.ownsRow base e 1 v n (([] ++ l.map .bool) ++ List.replicate G (.bool false))) : w.ownsRow base e 1 v n ((l ++ List.replicate G false).map .bool) := by
  rw [List.map_append, List.map_replicate]
  exact h

theorem own_pad0 {w : World} {base e n G c : Nat} {av : Option Addr} {l : List Bool} (h : w.ownsRow base e 1 (.slice av (0 + n + G) c) (0 + n + G) (([] ++ l.map .bool) ++ List.replicate G (.bool false))) : w.ownsRow base e 1 (.slice av (n + G) c) (n + G) ((l ++ List.replicate G false).map .bool) := by
  have h' := own_pad h
  rw [Nat.zero_add] at h'
  exact h'
theorem keep_two {w3 w' : World} {b1 k1 b2 k2 : Nat} {x y : Value} (l1 : b1 < w3.heap.size) (c1 : w3.cell? ⟨b1, k1, none⟩ = some x) (l2 : b2 < w3.heap.size) (c2 : w3.cell? ⟨b2, k2, none⟩ = some y) (h : Below w3.heap.size w3 w') :
    w'.cell? ⟨b1, k1, none⟩ = some x ∧ w'.cell? ⟨b2, k2, none⟩ = some y ∧ Below w3.heap.size w3 w' :=
  ⟨(h.cell (p := ⟨b1, k1, none⟩) l1).trans c1, (h.cell (p := ⟨b2, k2, none⟩) l2).trans c2, h⟩
end Go.Proofs.Ytlaeflpddehipab

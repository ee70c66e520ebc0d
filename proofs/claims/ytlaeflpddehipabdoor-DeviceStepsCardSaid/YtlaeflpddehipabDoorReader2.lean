/- image.reader.many, walked. -/
import Derived.Test.YtlaeflpddehipabDoorReader
set_option linter.unusedVariables false
namespace Go.Proofs.YtlaeflpddehipabDoor
open Go.RowKit

theorem set_bad {w : World} {br : Nat} {x y : Value} {T : Nat} (h : w.heap[br]? = some (.cells #[x, y] T (0, 0))) (y' : Value) :
    (w.setCell ⟨br, 1, none⟩ y').heap[br]? = some (.cells #[x, y'] T (0, 0)) ∧ w.grownBy (w.setCell ⟨br, 1, none⟩ y') (some br) := by
  have h1 := heap_setCell_same w br 1 _ _ y' h
  refine ⟨by rw [h1]; simp, rfl, rfl, rfl, by simp [World.setCell], fun k hk hne => ?_⟩
  have hk' : k ≠ br := fun e => hne (by rw [e])
  rw [heap_setCell_other _ _ _ _ hk']
theorem grown_two {w w1 w2 : World} {r : Nat} (h : w.grownBy w1 (some r)) (h' : w1.grownBy w2 (some r)) : w.grownBy w2 (some r) :=
  ⟨h'.os.trans h.os, h'.tape.trans h.tape, h'.output.trans h.output, Nat.le_trans h.size h'.size, fun k hk hne => (h'.block k (Nat.lt_of_lt_of_le hk h.size) hne).trans (h.block k hk hne)⟩

set_option maxHeartbeats 800000 in
theorem many_rd (br : Nat) (s : ByteArray) (bad : Bool) (w : World) (h : w.heap[br]? = some (.cells #[.string s, .bool bad] 105 (0, 0))) (hlen : s.size ≤ 1000000) :
    Calls Tryd.prog 46 #[.pointer (some ⟨br, 0, none⟩)] w (RdPost br (rdMany (bl s, bad)) s.size w) := by
  have HC := hid (number_rd br s bad w h hlen)
  have E : Hid (rdMany (bl s, bad) = if 20000 < (rd (bl s, bad)).1 ∨ (rd (bl s, bad)).2.1.length < (rd (bl s, bad)).1 then (0, (rd (bl s, bad)).2.1, true) else rd (bl s, bad)) := rfl
  clear h
  generalize rdMany (bl s, bad) = r2 at E ⊢
  generalize rd (bl s, bad) = r at *
  obtain ⟨n, l, b⟩ := r
  have E' := E.out
  simp only at E'
  clear E
  by_cases h1 : 20000 < n
  · have h1I : (20000 : Int) < (n : Int) := by omega
    rw [if_pos (.inl h1)] at E'
    have EE := hid E'
    clear E'
    go_enter Tryd.func46, Tryd.ntmps46
    go_wp2_with (go_at_call 45; (with_reducible refine HC.out.mono ?_); rintro e w1 ⟨s', rfl, hb, hx, hg, hsz⟩; have c0 := cell_block hx 0; have c1 := cell_block hx 1; simp only [List.getElem?_toArray, List.getElem?_cons_succ, List.getElem?_cons_zero] at c0 c1; have hf := free_block hx; have hz := (lt_of_cell c0).1; have HX := hid hx; have HB := hid hb; have HG := hid hg; have HS := hid hsz; clear hb hx hg hsz)
    go_ret
    obtain ⟨p1, p2⟩ := set_bad HX.out (.bool true)
    exact ⟨s', ret_int (by rw [EE.out]; rfl), by rw [EE.out]; exact HB.out, by rw [EE.out]; exact p1, grown_two HG.out p2, HS.out⟩
  · have h1I : decide ((20000 : Int) < (n : Int)) = false := decide_eq_false (by omega)
    by_cases h2 : l.length < n
    · rw [if_pos (.inr h2)] at E'
      have EE := hid E'
      clear E'
      go_enter Tryd.func46, Tryd.ntmps46
      go_wp2_with (go_at_call 45; (with_reducible refine HC.out.mono ?_); rintro e w1 ⟨s', rfl, hb, hx, hg, hsz⟩; have c0 := cell_block hx 0; have c1 := cell_block hx 1; simp only [List.getElem?_toArray, List.getElem?_cons_succ, List.getElem?_cons_zero] at c0 c1; have hf := free_block hx; have hz := (lt_of_cell c0).1; (have hsI : (s'.size : Int) < (n : Int) := by have h9 := bl_len s'; rw [hb] at h9; simp only at h9; omega); have HX := hid hx; have HB := hid hb; have HG := hid hg; have HS := hid hsz; clear hb hx hg hsz)
      go_ret
      obtain ⟨p1, p2⟩ := set_bad HX.out (.bool true)
      exact ⟨s', ret_int (by rw [EE.out]; rfl), by rw [EE.out]; exact HB.out, by rw [EE.out]; exact p1, grown_two HG.out p2, HS.out⟩
    · rw [if_neg (by omega)] at E'
      have EE := hid E'
      clear E'
      go_enter Tryd.func46, Tryd.ntmps46
      go_wp2_with (go_at_call 45; (with_reducible refine HC.out.mono ?_); rintro e w1 ⟨s', rfl, hb, hx, hg, hsz⟩; have c0 := cell_block hx 0; have c1 := cell_block hx 1; simp only [List.getElem?_toArray, List.getElem?_cons_succ, List.getElem?_cons_zero] at c0 c1; have hf := free_block hx; have hz := (lt_of_cell c0).1; (have hsI : (n : Int) ≤ (s'.size : Int) := by have h9 := bl_len s'; rw [hb] at h9; simp only at h9; omega); have HX := hid hx; have HB := hid hb; have HG := hid hg; have HS := hid hsz; clear hb hx hg hsz)
      go_ret
      exact ⟨s', ret_int (by rw [EE.out]), by rw [EE.out]; exact HB.out, by rw [EE.out]; exact HX.out, HG.out, HS.out⟩
end Go.Proofs.YtlaeflpddehipabDoor

/- The fact that the laws of nets look at first: a register that turns. -/
import Derived.Test.YtlaeflpddehipaaNetUse
set_option linter.unusedVariables false
namespace Go.Proofs.Ytlaeflpddehipaa
open Go.RowKit

def N0 : Net := ⟨0, [⟨4, 0, 0, 1⟩, ⟨8, 0, 0, 0⟩], [0]⟩
theorem N0_right : N0.right = true := by decide +kernel

theorem N0_in (w : World) : NetIn (w.heap.size + 3) (((w.alloc (.cells #[.int .i64 4, .int .i64 0, .int .i64 0, .int .i64 1, .int .i64 8, .int .i64 0, .int .i64 0, .int .i64 0] 52)).alloc (.cells #[.int .i64 0] 3)).alloc
    (.cells #[.int .i64 0, .slice (some ⟨w.heap.size, 0, none⟩) 2 2, .slice (some ⟨w.heap.size + 1, 0, none⟩) 1 1] 48)) (w.heap.size + 2) (some ⟨w.heap.size, 0, none⟩) 2 (some ⟨w.heap.size + 1, 0, none⟩) 1 N0 := by
  have hb : (((w.alloc (.cells #[.int .i64 4, .int .i64 0, .int .i64 0, .int .i64 1, .int .i64 8, .int .i64 0, .int .i64 0, .int .i64 0] 52)).alloc (.cells #[.int .i64 0] 3)).alloc
    (.cells #[.int .i64 0, .slice (some ⟨w.heap.size, 0, none⟩) 2 2, .slice (some ⟨w.heap.size + 1, 0, none⟩) 1 1] 48)).heap[w.heap.size + 2]? = some (.cells #[.int .i64 0, .slice (some ⟨w.heap.size, 0, none⟩) 2 2, .slice (some ⟨w.heap.size + 1, 0, none⟩) 1 1] 48 (0, 0)) := by
    have h := alloc_at ((w.alloc (.cells #[.int .i64 4, .int .i64 0, .int .i64 0, .int .i64 1, .int .i64 8, .int .i64 0, .int .i64 0, .int .i64 0] 52)).alloc (.cells #[.int .i64 0] 3))
      (.cells #[.int .i64 0, .slice (some ⟨w.heap.size, 0, none⟩) 2 2, .slice (some ⟨w.heap.size + 1, 0, none⟩) 1 1] 48)
    simp only [World.size_alloc] at h
    exact h
  refine ⟨by rw [cell_block hb]; rfl, by rw [cell_block hb]; rfl, by rw [cell_block hb]; rfl, .inr ⟨w.heap.size, 0, rfl, by omega, ?_⟩, .inr ⟨w.heap.size + 1, 0, rfl, by omega, ?_⟩, by omega, by unfold maxLen; decide, by unfold maxLen; decide⟩
  · have h1 := alloc_at w (.cells #[.int .i64 4, .int .i64 0, .int .i64 0, .int .i64 1, .int .i64 8, .int .i64 0, .int .i64 0, .int .i64 0] 52)
    intro j hj
    rw [Nat.zero_add]
    refine (cell_block (cs := #[.int .i64 4, .int .i64 0, .int .i64 0, .int .i64 1, .int .i64 8, .int .i64 0, .int .i64 0, .int .i64 0]) (T := 52) ?_ j).trans ?_
    · rw [Below.heap_alloc _ _ _ (by simp; omega), Below.heap_alloc _ _ _ (by simp)]
      exact h1
    · have : j < 8 := hj
      match j, this with
      | 0, _ | 1, _ | 2, _ | 3, _ | 4, _ | 5, _ | 6, _ | 7, _ => rfl
  · have h1 := alloc_at (w.alloc (.cells #[.int .i64 4, .int .i64 0, .int .i64 0, .int .i64 1, .int .i64 8, .int .i64 0, .int .i64 0, .int .i64 0] 52)) (.cells #[.int .i64 0] 3)
    rw [World.size_alloc] at h1
    intro j hj
    rw [Nat.zero_add]
    refine (cell_block (cs := #[.int .i64 0]) (T := 3) ?_ j).trans ?_
    · rw [Below.heap_alloc _ _ _ (by simp)]
      exact h1
    · have : j < 1 := hj
      match j, this with
      | 0, _ => rfl

theorem N0_gates : N0.gates = 1 := by decide +kernel
theorem N0_first : N0.first = [false, false] := by decide +kernel
theorem N0_out0 : N0.outVals [false, false] [] = [false] := by decide +kernel
theorem N0_out1 : N0.outVals [true, false] [] = [true] := by decide +kernel
theorem N0_next0 : N0.regs' [false, false] [] = [true, false] := by decide +kernel
theorem N0_next1 : N0.regs' [true, false] [] = [false, false] := by decide +kernel

/-- A step of that net: its one bit, and what it holds then. -/
def Turns (B b : Nat) (a : Option Addr) (a' : Option Addr) (s r : Nat) (out : Bool) (regs' : List Bool) (w : World) (e : Ending) (w' : World) : Prop :=
  ∃ g cap, e = .returned (.slice (some ⟨g, 0, none⟩) 1 cap) ∧ w'.cell? ⟨g, 0, none⟩ = some (.bool out) ∧ SimOk B w' b a 2 a' 1 N0 s r regs' ∧ ∀ C, C ≤ w.heap.size → C ≤ r → Below C w w'

theorem turns (B b : Nat) (a : Option Addr) (a' : Option Addr) (s r : Nat) (regs : List Bool) (out : Bool) (regs' : List Bool) (w : World) (h : SimOk B w b a 2 a' 1 N0 s r regs) (ho : N0.outVals regs [] = [out]) (hn : N0.regs' regs [] = regs') :
    Calls Try.prog 33 #[.pointer (some ⟨s, 0, none⟩), .slice none 0 0] w (Turns B b a a' s r out regs' w) := by
  refine (sim_step B b a 2 a' 1 N0 w s r regs none 0 [] h (Bits.nil w r)).mono ?_
  rintro e w' ⟨v, rfl, hown, hrow, hg⟩
  obtain ⟨g, cap, rfl, _, _, hc⟩ := owns_form hown (by decide)
  refine ⟨g, cap, rfl, ?_, ?_, fun C h1 h2 => below_of_grown hg h1 h2⟩
  · have := hc 0 (by decide)
    rw [this, ho]
    rfl
  · rw [← hn]
    exact h.next hrow hg

set_option maxHeartbeats 1600000 in
theorem netted_any (w : World) : Calls Try.prog 29 #[] w (Yes w) := by
  have hn := hid (N0_in w)
  have hb0 : Below w.heap.size w (((w.alloc (.cells #[.int .i64 4, .int .i64 0, .int .i64 0, .int .i64 1, .int .i64 8, .int .i64 0, .int .i64 0, .int .i64 0] 52)).alloc (.cells #[.int .i64 0] 3)).alloc
    (.cells #[.int .i64 0, .slice (some ⟨w.heap.size, 0, none⟩) 2 2, .slice (some ⟨w.heap.size + 1, 0, none⟩) 1 1] 48)) :=
    (((Below.refl _ _).alloc (Nat.le_refl _) _).alloc (by simp) _).alloc (by simp; omega) _
  have HB0 := hid hb0
  have G := hid N0_gates
  clear hb0
  go_enter Try.func29, Try.ntmps29
  go_wp2_with (first
    | (go_at_call 31; refine (New_right _ _ _ _ _ _ N0 _ hn.out (by simp) N0_right).mono ?_; rintro e w1 ⟨s, r, rfl, hs, hr, hsr, hsim, hbel⟩; have sk := SimOk.mk' hn.out N0_right hs hr hsr hsim hbel (by simp); rw [N0_first] at sk; have HB1 := hid (HB0.out.trans (hbel.mono (by simp; omega))); have hr0 : w.heap.size ≤ r := (by simp at hr; omega); clear hsim hbel hs hr)
    | (go_at_call 32; refine (Gates_any _ _ _ _ _ _ N0 _ sk.net sk.bw).mono ?_; rintro e w2 ⟨rfl, hbel⟩; rw [G.out]; have sk2 := sk.stay hbel; have HB2 := hid (HB1.out.trans (hbel.mono HB1.out.size)); clear sk hbel)
    | (go_at_call 33; (with_reducible refine (turns _ _ _ _ _ _ _ false _ _ sk2 N0_out0 N0_next0).mono ?_); rintro e w3 ⟨g1, c1, rfl, hg1, sk3, hb3⟩; have HB3 := hid (HB2.out.trans (hb3 _ HB2.out.size hr0)); clear sk2 hb3)
    | (go_at_call 33; (with_reducible refine (turns _ _ _ _ _ _ _ true _ _ sk3 N0_out1 N0_next1).mono ?_); rintro e w4 ⟨g2, c2, rfl, hg2, sk4, hb4⟩; have HB4 := hid (HB3.out.trans (hb4 _ HB3.out.size hr0)); clear sk3 hb4)
    | (go_at_call 33; (with_reducible refine (turns _ _ _ _ _ _ _ false _ _ sk4 N0_out0 N0_next0).mono ?_); rintro e w5 ⟨g3, c3, rfl, hg3, sk5, hb5⟩; have HB5 := hid (HB4.out.trans (hb5 _ HB4.out.size hr0)); clear sk4 hb5))
  go_ret
  exact ⟨rfl, HB5.out⟩
end Go.Proofs.Ytlaeflpddehipaa

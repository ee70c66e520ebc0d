/- keep.imaged: the fact that the laws of images look at first. -/
import Derived.Test.YtlaeflpddehipaaWrite
set_option linter.unusedVariables false
namespace Go.Proofs.Ytlaeflpddehipaa
open Go.RowKit

theorem boxes5 (w : World) (o1 o2 o3 o4 o5 : Obj) : (((((w.alloc o1).alloc o2).alloc o3).alloc o4).alloc o5).heap[w.heap.size]? = some o1 ∧ (((((w.alloc o1).alloc o2).alloc o3).alloc o4).alloc o5).heap[w.heap.size + 1]? = some o2 ∧ (((((w.alloc o1).alloc o2).alloc o3).alloc o4).alloc o5).heap[w.heap.size + 2]? = some o3 ∧
    (((((w.alloc o1).alloc o2).alloc o3).alloc o4).alloc o5).heap[w.heap.size + 3]? = some o4 ∧ (((((w.alloc o1).alloc o2).alloc o3).alloc o4).alloc o5).heap[w.heap.size + 4]? = some o5 ∧ Below w.heap.size w (((((w.alloc o1).alloc o2).alloc o3).alloc o4).alloc o5) ∧ (((((w.alloc o1).alloc o2).alloc o3).alloc o4).alloc o5).heap.size = w.heap.size + 5 := by
  have h1 := box_new w o1
  have h2 := box_new (w.alloc o1) o2
  have h3 := box_new ((w.alloc o1).alloc o2) o3
  have h4 := box_new (((w.alloc o1).alloc o2).alloc o3) o4
  have h5 := box_new ((((w.alloc o1).alloc o2).alloc o3).alloc o4) o5
  simp only [World.size_alloc] at h2 h3 h4 h5
  refine ⟨?_, ?_, ?_, ?_, h5, ?_, by simp⟩
  · rw [Below.heap_alloc _ _ _ (by first | (simp; done) | (simp; omega)), Below.heap_alloc _ _ _ (by first | (simp; done) | (simp; omega)), Below.heap_alloc _ _ _ (by first | (simp; done) | (simp; omega)), Below.heap_alloc _ _ _ (by simp)]; exact h1
  · rw [Below.heap_alloc _ _ _ (by first | (simp; done) | (simp; omega)), Below.heap_alloc _ _ _ (by first | (simp; done) | (simp; omega)), Below.heap_alloc _ _ _ (by simp)]; exact h2
  · rw [Below.heap_alloc _ _ _ (by first | (simp; done) | (simp; omega)), Below.heap_alloc _ _ _ (by simp)]; exact h3
  · rw [Below.heap_alloc _ _ _ (by simp)]; exact h4
  · exact (((((Below.refl _ _).alloc (Nat.le_refl _) _).alloc (by simp) _).alloc (by first | (simp; done) | (simp; omega)) _).alloc (by first | (simp; done) | (simp; omega)) _).alloc (by first | (simp; done) | (simp; omega)) _

def L1 : LN := ⟨2, [⟨true, 3⟩], [⟨[0, 2], 6⟩], [3]⟩
theorem L1_right : L1.right = true := by decide +kernel
theorem L1_bytes : L1.bytes = [2, 1, 1, 3, 1, 2, 0, 2, 6, 1, 3] := by decide +kernel
theorem L1_str : strOf L1.bytes = ⟨#[2, 1, 1, 3, 1, 2, 0, 2, 6, 1, 3]⟩ := by rw [L1_bytes]; rfl
def L1lay (s : Nat) : Lay := ⟨some ⟨s, 0, none⟩, 1, some ⟨s + 2, 0, none⟩, 1, some ⟨s + 3, 0, none⟩, 1, fun _ => some ⟨s + 1, 0, none⟩, fun _ => 2⟩

theorem cells_of {W : World} {b B : Nat} {cs : Array Value} {T n : Nat} {f : Nat → Value} (h : W.heap[b]? = some (.cells cs T (0, 0))) (hb : b < B) (hf : ∀ j, j < n → cs[j]? = some (f j)) : Cells B W (some ⟨b, 0, none⟩) n f :=
  .inr ⟨b, 0, rfl, hb, fun j hj => by rw [Nat.zero_add, cell_block h j]; exact hf j hj⟩

theorem L1_in (w : World) : LnIn (w.heap.size + 5) (((((w.alloc (.cells #[.bool true, .int .i64 3] 75)).alloc (.cells #[.int .i64 0, .int .i64 2] 3)).alloc (.cells #[.slice (some ⟨w.heap.size + 1, 0, none⟩) 2 2, .int .i64 6] 35)).alloc (.cells #[.int .i64 3] 3)).alloc
    (.cells #[.int .i64 2, .slice (some ⟨w.heap.size, 0, none⟩) 1 1, .slice (some ⟨w.heap.size + 2, 0, none⟩) 1 1, .slice (some ⟨w.heap.size + 3, 0, none⟩) 1 1] 26)) (w.heap.size + 4) (L1lay w.heap.size) L1 := by
  obtain ⟨h1, h2, h3, h4, h5, _, _⟩ := boxes5 w (.cells #[.bool true, .int .i64 3] 75) (.cells #[.int .i64 0, .int .i64 2] 3) (.cells #[.slice (some ⟨w.heap.size + 1, 0, none⟩) 2 2, .int .i64 6] 35) (.cells #[.int .i64 3] 3) (.cells #[.int .i64 2, .slice (some ⟨w.heap.size, 0, none⟩) 1 1, .slice (some ⟨w.heap.size + 2, 0, none⟩) 1 1, .slice (some ⟨w.heap.size + 3, 0, none⟩) 1 1] 26)
  refine ⟨(cell_block h5 0).trans rfl, (cell_block h5 1).trans rfl, (cell_block h5 2).trans rfl, (cell_block h5 3).trans rfl, ⟨?_, ?_, ?_, ?_, by decide, by decide, ?_, by decide⟩, by omega⟩
  · refine cells_of h1 (by omega) fun j hj => ?_
    have : j = 0 ∨ j = 1 := by simp [L1] at hj; omega
    rcases this with rfl | rfl <;> rfl
  · refine cells_of h3 (by omega) fun j hj => ?_
    have : j = 0 ∨ j = 1 := by simp [L1] at hj; omega
    rcases this with rfl | rfl <;> rfl
  · intro i hi
    have : i = 0 := by simp [L1] at hi; omega
    subst this
    refine cells_of h2 (by omega) fun j hj => ?_
    have : j = 0 ∨ j = 1 := by simp [L1] at hj; omega
    rcases this with rfl | rfl <;> rfl
  · refine cells_of h4 (by omega) fun j hj => ?_
    have : j = 0 := by simp [L1] at hj; omega
    subst this
    rfl
  · intro i
    by_cases e : i = 0
    · subst e; decide
    · have : (L1.luts.getD i LT.zero) = LT.zero := by
        simp [L1, List.getD_eq_getElem?_getD]
        rw [List.getElem?_eq_none (by simp; omega)]
        rfl
      rw [this]
      decide

theorem imaged_any (w : World) : Calls Try.prog 13 #[] w (Tell true w) := by
  have hx := boxes5 w (.cells #[.bool true, .int .i64 3] 75) (.cells #[.int .i64 0, .int .i64 2] 3) (.cells #[.slice (some ⟨w.heap.size + 1, 0, none⟩) 2 2, .int .i64 6] 35) (.cells #[.int .i64 3] 3) (.cells #[.int .i64 2, .slice (some ⟨w.heap.size, 0, none⟩) 1 1, .slice (some ⟨w.heap.size + 2, 0, none⟩) 1 1, .slice (some ⟨w.heap.size + 3, 0, none⟩) 1 1] 26)
  have HBX := hid hx.2.2.2.2.2.1
  have HSZ := hid hx.2.2.2.2.2.2
  have hc := Write_right _ _ _ L1 _ (L1_in w) (by rw [HSZ.out]; omega) L1_right
  have HC := hid hc
  clear hx hc
  go_enter Try.func13, Try.ntmps13
  go_wp2_with (go_at_call 14; (with_reducible refine HC.out.mono ?_); rintro e w1 ⟨rfl, hbel⟩; rw [L1_str]; have HB := hid (HBX.out.trans (hbel.mono HBX.out.size)); clear hbel)
  go_ret
  exact ⟨rfl, HB.out⟩
end Go.Proofs.Ytlaeflpddehipaa

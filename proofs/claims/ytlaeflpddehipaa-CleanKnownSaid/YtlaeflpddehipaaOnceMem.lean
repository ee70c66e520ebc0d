/- clean.once: the maker at first. -/
import Derived.Test.YtlaeflpddehipaaNeeded
set_option linter.unusedVariables false
namespace Go.Proofs.Ytlaeflpddehipaa
open Go.RowKit
attribute [local go_sem ↓] Go.wp_at_zero Go.wp_at_succ

theorem Try.make_intsN (n : Nat) (hn : n ≤ 1000000) (u : World) : (Instr.makeSlice 24 (.int .i64 (n : Int)) (.int .i64 (n : Int))).run Try.prog u = .ok (.slice (some ⟨u.heap.size, 0, none⟩) n n) (u.alloc (.cells (ints (List.replicate n 0)) 3)) := by
  obtain ⟨i0, hi, hz0, hz1, hz2⟩ := info_parts Try.infoIntN
  have h := run_make (P := Try.prog) u 24 3 i0 (.int .i64 0) Try.underlying24 hi hz0 .i64 .i64 (n : Int) (n : Int) (by omega) (Int.le_refl _) (by rw [hz2]; omega) (by omega)
  have e : madeCells #[Value.int .i64 0] n = ints (List.replicate n 0) := by
    apply Array.ext'
    rw [toList_madeCells_one]
    simp [ints]
  rw [Int.toNat_natCast] at h
  rw [h, hz1]
  simp [Value.cells, e]
theorem SeenMap.empty {w : World} {bs : Nat} (h : w.heap[bs]? = some (.map #[] 0)) : SeenMap w bs [] := by
  have h0 := SeenMap.made w
  obtain ⟨D, ⟨es, clock, hb, F, hs, rfl⟩, h2⟩ := h0
  rw [box_at] at hb
  cases hb
  exact ⟨_, ⟨#[], 0, h, F, hs, rfl⟩, h2⟩
theorem Mak.start {B bm bo bn bf bs : Nat} {g : Int} {n : Nat} {wx : World} (hB : B ≤ wx.heap.size)
    (h1 : wx.heap[bm]? = some (.cells #[.pointer (some ⟨bo, 0, none⟩), .pointer (some ⟨bn, 0, none⟩), .slice (some ⟨bf, 0, none⟩) n n, .map (some bs)] 104 (0, 0)))
    (h2 : wx.heap[bn]? = some (.cells #[.int .i64 g, .slice none 0 0, .slice none 0 0] 48 (0, 0))) (h3 : wx.heap[bf]? = some (.cells (ints (List.replicate n 0)) 3 (0, 0))) (h4 : wx.heap[bs]? = some (.map #[] 0)) (hbm : B ≤ bm) (hbn : B ≤ bn) (hbf : B ≤ bf) (hbs : B ≤ bs) :
    Mak B bm bo bn bf bs g none 0 [] [] (List.replicate n 0) wx :=
  ⟨hbm, hbn, hbf, hbs, hB, by rw [List.length_replicate]; exact h1, h2, World.ownsRow_nil _ _ _ _, h3, SeenMap.empty h4⟩
theorem alloc4 (w : World) (o1 o2 o3 o4 : Obj) : ((((w.alloc o1).alloc o2).alloc o3).alloc o4).drew.heap[w.heap.size]? = some o1 ∧ ((((w.alloc o1).alloc o2).alloc o3).alloc o4).drew.heap[w.heap.size + 1]? = some o2 ∧ ((((w.alloc o1).alloc o2).alloc o3).alloc o4).drew.heap[w.heap.size + 1 + 1]? = some o3 ∧
    ((((w.alloc o1).alloc o2).alloc o3).alloc o4).drew.heap[w.heap.size + 1 + 1 + 1]? = some o4 ∧ Below w.heap.size w ((((w.alloc o1).alloc o2).alloc o3).alloc o4).drew ∧ w.heap.size ≤ ((((w.alloc o1).alloc o2).alloc o3).alloc o4).drew.heap.size := by
  have h2 := box_at (w.alloc o1) o2
  have h3 := box_at ((w.alloc o1).alloc o2) o3
  have h4 := box_at (((w.alloc o1).alloc o2).alloc o3) o4
  simp only [World.size_alloc] at h2 h3 h4
  have hb : Below w.heap.size w ((((w.alloc o1).alloc o2).alloc o3).alloc o4).drew := ((((Below.refl w.heap.size w).alloc (Nat.le_refl _) _).alloc (by simp) _).alloc (by simp; omega) _).alloc (by simp; omega) _ |>.drew
  exact ⟨box_under2 _ (box_under2 _ (box_under2 _ (box_at w o1))), box_under2 _ (box_under2 _ h2), box_under2 _ h3, h4, hb, hb.size⟩
end Go.Proofs.Ytlaeflpddehipaa

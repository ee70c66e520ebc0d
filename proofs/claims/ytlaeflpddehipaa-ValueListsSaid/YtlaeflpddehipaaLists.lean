/- ValueLists: its helpers, walked. -/
import Derived.Test.YtlaeflpddehipaaValUse
import Derived.Test.YtlaeflpddehipaaZeros
import Derived.Laws.AppendOwnNone
set_option linter.unusedVariables false
namespace Go.Proofs.Ytlaeflpddehipaa
open Go.RowKit

/-- Eight cells of the call's own: the first eight of some bits, false behind them. -/
def Eight (l : List Bool) (w : World) (e : Ending) (w' : World) : Prop :=
  ∃ b c, e = .returned (.slice (some ⟨b, 0, none⟩) 8 c) ∧ 8 ≤ c ∧ c ≤ maxLen ∧ (Cells w'.heap.size w' (some ⟨b, 0, none⟩) 8 fun j => .bool (l.getD j false)) ∧ Below w.heap.size w w'

theorem eight_of {w' : World} {base : Nat} {l : List Bool} {v : Value} (h : w'.ownsRow base 4 1 v (l.length + 8) (l.map Value.bool ++ List.replicate 8 (.bool false))) :
    ∃ b c, v = .slice (some ⟨b, 0, none⟩) (l.length + 8) c ∧ l.length + 8 ≤ c ∧ c ≤ maxLen ∧ (Cells w'.heap.size w' (some ⟨b, 0, none⟩) 8 fun j => .bool (l.getD j false)) := by
  obtain ⟨a, c, rfl, hn, hc, hcells⟩ := Cells.of_owns h
  obtain ⟨h1, h2⟩ := h
  rcases h2 with ⟨h2, h3⟩ | ⟨g, cap, cur, hv, _⟩
  · omega
  · simp only [Value.slice.injEq] at hv
    obtain ⟨rfl, _, rfl⟩ := hv
    refine ⟨g, c, rfl, hn, hc, ?_⟩
    rcases hcells with h0 | ⟨b, off, ha, hb, hcell⟩
    · omega
    · refine .inr ⟨b, off, ha, hb, fun j hj => (hcell j (by omega)).trans ?_⟩
      simp only [List.getD_eq_getElem?_getD, List.getElem?_append, List.length_map, List.getElem?_map, List.getElem?_replicate]
      by_cases hjl : j < l.length
      · simp [hjl]
      · rw [if_neg hjl, if_pos (by omega)]
        simp [Nat.le_of_not_lt hjl]

set_option maxHeartbeats 800000 in
theorem eight_any (B : Nat) (a : Option Addr) (n c : Nat) (l : List Bool) (w : World) (hn : n = l.length) (hm : n ≤ 20) (ha : a = none → n = 0 ∧ c = 0) (hc : Cells B w a n (fun i => .bool (l.getD i false))) (hB : B ≤ w.heap.size) :
    Calls Try.prog 26 #[.slice a n c] w (Eight l w) := by
  obtain ⟨i0, hi, hz0, hz1, hz2⟩ := info_parts Try.infoBool
  have hE : (w.alloc (.cells #[] 4)).ownsRow w.heap.size 4 1 (.slice (some ⟨w.heap.size, 0, none⟩) 0 0) 0 [] := World.ownsRow_lit w #[] 0 (Nat.le_refl _) (Nat.zero_le _) (by rfl)
  have hbE : Below w.heap.size w (w.alloc (.cells #[] 4)) := (Below.refl _ _).alloc (Nat.le_refl _) _
  have HC := hid (hc.stay (hbE.mono hB))
  have HN := hid hn
  clear hc hn
  have hsz : w.heap.size ≤ (w.alloc (.cells #[] 4)).heap.size := hbE.size
  cases a with
  | none =>
    obtain ⟨rfl, rfl⟩ := ha rfl
    have hl : l = [] := List.eq_nil_of_length_eq_zero HN.out.symm
    subst hl
    clear HN HC
    go_enter Try.func26, Try.ntmps26
    go_wp2_with (first
      | (refine wpList_build0 _ rfl 41 rfl 4 i0 Try.underlying41 hi ?_)
      | (at_builtin; refine wpList_append_own_none rfl (.tmp 3) (.tmp 4) 41 rfl w.heap.size 4 i0 1 Try.underlying41 hi _ 0 [] rfl hE rfl ?_)
      | (at_builtin; refine wpList_zeros _ w rfl (.tmp 5) (.const (.int .i64 8)) 41 3 rfl 4 i0 (.bool false) .i64 .i64 1 Try.underlying41 Try.underlying3 hi hz0 hz1 hz2 rfl rfl w.heap.size _ 0 [] rfl hE 8 rfl (by decide) (by unfold maxLen; decide) (by decide) hbE (Nat.le_refl _) hsz ?_; intro v' w1 hown hbel _; obtain ⟨gb, gc, rfl, hgc, hgm, hcells⟩ := eight_of (l := []) hown; have HGM := hid hgm; have HCL := hid hcells; have hg8 : (8 : Int) ≤ gc := (by simp at hgc; omega); clear hgm hcells hown))
    go_ret
    exact ⟨_, _, rfl, by omega, HGM.out, HCL.out, by with_reducible assumption⟩
  | some ad =>
    obtain rfl : n = l.length := HN.out
    clear HN
    have hnews := HC.out.news (xs := l.map Value.bool) (by simp) (fun j hj => by simp [hj])
    have h1 : ∀ u ∈ l.map Value.bool, u.oneCell' = true := by
      intro u hu
      obtain ⟨x, _, rfl⟩ := List.mem_map.1 hu
      rfl
    have HNEWS := hid hnews
    have H1 := hid h1
    clear hnews h1 HC ha
    go_enter Try.func26, Try.ntmps26
    go_wp2_with (first
      | (refine wpList_build0 _ rfl 41 rfl 4 i0 Try.underlying41 hi ?_)
      | (at_builtin; refine wpList_append_own _ rfl (.tmp 3) (.tmp 4) 41 rfl w.heap.size 4 i0 (.bool false) 1 1 Try.underlying41 hi hz0 hz1 hz2 rfl (by decide) _ 0 [] rfl hE ad l.length c (l.map Value.bool) rfl (by simp) HNEWS.out H1.out (by unfold maxLen; omega) (by omega) hsz ?_; intro v1 w1 hown1 hg1 _; simp only [Nat.zero_add, List.nil_append] at hown1; have hbel1 : Below w.heap.size w w1 := hbE.grown hg1 hsz (fun k hk => (hE.lt k hk).1); have hsz1 := hbel1.size; have HOWN := hid hown1; clear hown1 hg1)
      | (at_builtin; refine wpList_zeros _ w rfl (.tmp 5) (.const (.int .i64 8)) 41 3 rfl 4 i0 (.bool false) .i64 .i64 1 Try.underlying41 Try.underlying3 hi hz0 hz1 hz2 rfl rfl w.heap.size _ l.length (l.map Value.bool) rfl HOWN.out 8 rfl (by decide) (by unfold maxLen; omega) (by omega) hbel1 (Nat.le_refl _) hsz1 ?_; intro v' w2 hown hbel _; obtain ⟨gb, gc, rfl, hgc, hgm, hcells⟩ := eight_of hown; have HGM := hid hgm; have HCL := hid hcells; have hg8 : (8 : Int) ≤ gc := (by omega); clear hgm hcells hown))
    go_ret
    exact ⟨_, _, rfl, by omega, HGM.out, HCL.out, by with_reducible assumption⟩
end Go.Proofs.Ytlaeflpddehipaa

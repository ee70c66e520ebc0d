/- The document's nets of gates: which may be, how many gates they have. -/
import Derived.Test.YtlaeflpddehipaaDoorTwBase
import Derived.Deep.DeepCutAuto
set_option linter.unusedVariables false
namespace Go.Proofs.YtlaeflpddehipaaDoor
open Go.RowKit

theorem rin_is (x lo hi : Int) (r : Bool) (h : Hid (decide (lo ≤ x ∧ x ≤ hi) = r)) (w : World) : Calls Tryd.prog 26 #[.int .i64 x, .int .i64 lo, .int .i64 hi] w fun e w' => e = .returned (.bool r) ∧ w = w' := by
  by_cases h0 : lo ≤ x
  · by_cases h1 : x ≤ hi
    · have e : Hid (r = true) := by unfold Hid; rw [← h.out]; exact decide_eq_true ⟨h0, h1⟩
      clear h
      go_enter Tryd.func26, Tryd.ntmps26
      go_wp2
      go_ret
      exact ⟨ret_bool e.out.symm, rfl⟩
    · have e : Hid (r = false) := by unfold Hid; rw [← h.out]; exact decide_eq_false (fun h => h1 h.2)
      have d1 : decide (x ≤ hi) = false := decide_eq_false h1
      clear h
      go_enter Tryd.func26, Tryd.ntmps26
      go_wp2
      go_ret
      exact ⟨ret_bool e.out.symm, rfl⟩
  · have e : Hid (r = false) := by unfold Hid; rw [← h.out]; exact decide_eq_false (fun h => h0 h.1)
    have d1 : decide (lo ≤ x) = false := decide_eq_false h0
    clear h
    go_enter Tryd.func26, Tryd.ntmps26
    go_wp2
    go_ret
    exact ⟨ret_bool e.out.symm, rfl⟩
section
variable (B : Nat) (a : Option Addr) (c : Nat) (a' : Option Addr) (c' : Nat) (N : Net) (w : World)
/-- The document's net, boxed by the call. -/
theorem rbox (h : NetRows B w a c a' c' N) (hB : B ≤ w.heap.size) : NetIn (w.heap.size + 1) (w.alloc (.cells #[.int .i64 N.given, .slice a N.nodes.length c, .slice a' N.outs.length c'] 29)) w.heap.size a c a' c' N :=
  h.box (w' := w.alloc (.cells #[.int .i64 N.given, .slice a N.nodes.length c, .slice a' N.outs.length c'] 29)) hB (alloc_at _ _) ((Below.refl _ _).alloc (Nat.le_refl _) _) _ (Nat.lt_succ_self _) (by omega)
set_option maxHeartbeats 1600000 in
theorem RefGates_any (h : NetRows B w a c a' c' N) (hB : B ≤ w.heap.size) :
    Calls Tryd.prog 9 #[.agg #[.int .i64 N.given, .slice a N.nodes.length c, .slice a' N.outs.length c']] w fun e w' => e = .returned (.int .i64 (N.gates : Nat)) ∧ Below w.heap.size w w' := by
  have HI := hid (rbox B a c a' c' N w h hB)
  have hb1 : Below w.heap.size w (w.alloc (.cells #[.int .i64 N.given, .slice a N.nodes.length c, .slice a' N.outs.length c'] 29)) := (Below.refl _ _).alloc (Nat.le_refl _) _
  have HB1 := hid hb1
  have hsz1 : (w.alloc (.cells #[.int .i64 N.given, .slice a N.nodes.length c, .slice a' N.outs.length c'] 29)).heap.size = w.heap.size + 1 := by simp
  have HSZ1 := hid hsz1
  have hm := h.ln
  unfold maxLen at hm
  obtain ⟨n, hN⟩ : ∃ n, N.nodes.length = n := ⟨_, rfl⟩
  rw [hN] at hm
  have HN := hid hN
  have E : Hid (N.gates = gatesTo N.nodes n) := by unfold Hid Net.gates; rw [hN]
  rw [hN] at HI HB1 HSZ1 ⊢
  clear h hN hb1 hsz1
  go_enter Tryd.func9, Tryd.ntmps9
  go_upto_region 2 with fail
  generalize w.alloc (.cells #[.int .i64 N.given, .slice a n c, .slice a' N.outs.length c'] 29) = w1 at *
  have hn1 := HI.out.nodes
  rw [HN.out] at hn1
  have hlt1 : w.heap.size < w1.heap.size := by have := HSZ1.out; omega
  go_wp2_with fail
  clear hn1
  go_loopw [3, 9] (fun s v wr => ∃ k : Nat, k ≤ n ∧ v = .int .i64 k ∧ s = .int .i64 (gatesTo N.nodes k : Nat) ∧ Below w1.heap.size w1 wr) (fun _ v _ => n - (intOf v).toNat)
  case atStart => exact ⟨0, Nat.zero_le _, rfl, rfl, Below.refl _ _⟩
  case round =>
    obtain ⟨k, hk, rfl, rfl, hbel⟩ := hrel
    by_cases hlt : k < n
    · have h' := HI.out.stay (hbel.mono (by have := HSZ1.out; omega))
      obtain ⟨b1, off, rfl, hb1, c0, c1, c2, c3⟩ := h'.node k (by rw [HN.out]; exact hlt)
      have HS := hid (gatesTo_succ N.nodes k (by rw [HN.out]; exact hlt))
      have hle := gatesTo_le N.nodes k
      have hkI : (k : Int) < n := by omega
      have hk0 : (0 : Int) ≤ k := by omega
      obtain ⟨x, hx⟩ : ∃ x, N.nodes.getD k GN.zero = x := ⟨_, rfl⟩
      rw [hx] at c0 c1 c2 c3
      have HX := hid hx
      obtain ⟨op, xa, xb, xn⟩ := x
      simp only at c0 c1 c2 c3
      have hsz := hbel.size
      clear h' hx
      have HBL := hid hbel
      clear hbel
      cases hg : decide (5 ≤ op ∧ op ≤ 8)
      · have HG := hid hg
        have F : Hid (gatesTo N.nodes (k + 1) = gatesTo N.nodes k) := by
          have hgt : GN.isGate ⟨op, xa, xb, xn⟩ = false := hg
          unfold Hid; rw [HS.out, HX.out]; simp [hgt]
        clear hg
        go_wp2_with (go_at_call 26; (with_reducible refine (rin_is op 5 8 false HG _).mono ?_); rintro e w2 ⟨rfl, rfl⟩)
        go_roundw
        case rel => exact ⟨k + 1, by omega, by go_num, val_int (by rw [F.out]), HBL.out.alloc hsz _⟩
        case measure => simp [intOf]; omega
      · have HG := hid hg
        have F : Hid (gatesTo N.nodes (k + 1) = gatesTo N.nodes k + 1) := by
          have hgt : GN.isGate ⟨op, xa, xb, xn⟩ = true := hg
          unfold Hid; rw [HS.out, HX.out]; simp [hgt]
        clear hg
        go_wp2_with (go_at_call 26; (with_reducible refine (rin_is op 5 8 true HG _).mono ?_); rintro e w2 ⟨rfl, rfl⟩)
        go_roundw
        case rel => exact ⟨k + 1, by omega, by go_num, val_int (by rw [F.out]; omega), HBL.out.alloc hsz _⟩
        case measure => simp [intOf]; omega
    · obtain rfl : k = n := by omega
      have HBL := hid hbel
      clear hbel
      go_wp2
      go_ret
      exact ⟨ret_int (by rw [E.out]), HB1.out.trans (HBL.out.mono (by omega))⟩
end
end Go.Proofs.YtlaeflpddehipaaDoor

/- clean.Clean, walked; the fact that its laws look at first. -/
import Derived.Test.YtlaeflpddehipaaOnceW
import Derived.Test.YtlaeflpddehipaaCleanConst
import Derived.Test.YtlaeflpddehipaaNetUse
set_option linter.unusedVariables false
namespace Go.Proofs.Ytlaeflpddehipaa
open Go.RowKit
attribute [local go_sem ↓] Go.wp_at_zero Go.wp_at_succ

def OnceTimes : Nat → Net → Net → Prop
  | 0, N, N' => N' = N
  | k + 1, N, N' => ∃ M, OnceTimes k N M ∧ OnceOf M N'
theorem OnceTimes.right {N : Net} (hN : N.right = true) : ∀ (k : Nat) {N' : Net}, OnceTimes k N N' → N'.right = true
  | 0, _, h => by rw [show _ = N from h]; exact hN
  | k + 1, _, ⟨M, h1, h2⟩ => (h2.same (OnceTimes.right hN k h1)).right
theorem OnceTimes.four {N N' : Net} (h : OnceTimes 4 N N') : CleanOf N N' := by
  obtain ⟨M3, ⟨M2, ⟨M1, ⟨M0, h0, h1⟩, h2⟩, h3⟩, h4⟩ := h
  obtain rfl : M0 = N := h0
  exact ⟨M1, M2, M3, h1, h2, h3, h4⟩
/-- What Clean hands back. -/
def Cleans (N : Net) (w : World) (e : Ending) (w' : World) : Prop :=
  ∃ bn a c a' c' N', e = .returned (.tuple #[.pointer (some ⟨bn, 0, none⟩), .nilIface]) ∧ CleanOf N N' ∧ NetIn w'.heap.size w' bn a c a' c' N' ∧ Below w.heap.size w w'
def CleanRel (N : Net) (w : World) (v0 v : Value) (wr : World) : Prop :=
  ∃ (k bM : Nat) (a : Option Addr) (c : Nat) (a' : Option Addr) (c' : Nat) (M : Net), k ≤ 4 ∧ v = .int .i64 k ∧ v0 = .pointer (some ⟨bM, 0, none⟩) ∧ NetIn wr.heap.size wr bM a c a' c' M ∧ OnceTimes k N M ∧ Below w.heap.size w wr

theorem Clean_wrong (B b : Nat) (a : Option Addr) (c : Nat) (a' : Option Addr) (c' : Nat) (N : Net) (w : World) (h : NetIn B w b a c a' c' N) (hBw : B ≤ w.heap.size) (hr : N.right = false) :
    Calls Try.prog 40 #[.pointer (some ⟨b, 0, none⟩)] w fun e w' => e = .returned (.tuple #[.pointer none, .iface 76 (.int .i64 1)]) ∧ Below w.heap.size w w' := by
  have HR := hid hr
  have H := hid h
  clear h hr
  go_enter Try.func40, Try.ntmps40
  go_wp2_with (go_at_call 30; refine (Right_any B b a c a' c' N _ H.out hBw).mono ?_; rintro e w1 ⟨rfl, hbel⟩; rw [HR.out])
  go_ret2
  exact ⟨rfl, hbel⟩
set_option maxHeartbeats 1600000 in
theorem Clean_right (B b : Nat) (a : Option Addr) (c : Nat) (a' : Option Addr) (c' : Nat) (N : Net) (w : World) (h : NetIn B w b a c a' c' N) (hBw : B ≤ w.heap.size) (hr : N.right = true) :
    Calls Try.prog 40 #[.pointer (some ⟨b, 0, none⟩)] w (Cleans N w) := by
  have HR := hid hr
  have H := hid h
  clear h hr
  go_enter Try.func40, Try.ntmps40
  go_wp2_with (go_at_call 30; refine (Right_any B b a c a' c' N _ H.out hBw).mono ?_; rintro e w1 ⟨rfl, hbel⟩; rw [HR.out]; have HB1 := hid hbel; have HN1 := hid ((H.out.stay (hbel.mono hBw)).mono (Nat.le_trans hBw hbel.size)); clear hbel)
  go_loopw [0, 8] (fun v0 v wr => CleanRel N w v0 v wr) (fun _ v _ => 4 - (intOf v).toNat)
  case atStart => exact ⟨0, _, _, _, _, _, N, by decide, rfl, rfl, HN1.out, rfl, HB1.out⟩
  case round =>
    obtain ⟨k, bM, aM, cM, aM', cM', M, hle, rfl, rfl, hnet, ht, hbl⟩ := hrel
    have HNET := hid hnet
    have HT := hid ht
    have HBL := hid hbl
    clear hnet ht hbl
    by_cases hlt : k < 4
    · have hltI : ((k : Nat) : Int) < 4 := by omega
      have HRM := hid (OnceTimes.right HR.out k HT.out)
      go_wp2_with (go_at_call 68; (with_reducible refine (once_any _ bM aM cM aM' cM' M wr HNET.out HRM.out (Nat.le_refl _)).mono ?_); rintro e w5 ⟨bn, need, ad, cd, ao, co, rfl, hneed, hnet5, hb5⟩; have HNET5 := hid hnet5; have HNEED := hid hneed; have HB5 := hid (HBL.out.trans (hb5.mono HBL.out.size)); clear hneed hnet5 hb5)
      go_roundw
      case rel => exact ⟨k + 1, bn, ad, cd, ao, co, _, hlt, by go_num, rfl, HNET5.out, ⟨M, HT.out, need, HNEED.out, rfl⟩, HB5.out⟩
      case measure => simp [intOf]; omega
    · obtain rfl : k = 4 := by omega
      go_wp2_with fail
      go_ret2
      exact ⟨bM, aM, cM, aM', cM', M, rfl, HT.out.four, HNET.out, HBL.out⟩

/-! ### the fact -/
def N1 : Net := ⟨1, [⟨3, 0, 0, 0⟩, ⟨8, 0, 0, 0⟩, ⟨5, 0, 1, 0⟩, ⟨6, 0, 2, 0⟩], [3]⟩
theorem N1_right : N1.right = true := by decide +kernel
theorem N1_gates : N1.gates = 3 := by decide +kernel
def n1cells : Array Value := #[.int .i64 3, .int .i64 0, .int .i64 0, .int .i64 0, .int .i64 8, .int .i64 0, .int .i64 0, .int .i64 0, .int .i64 5, .int .i64 0, .int .i64 1, .int .i64 0, .int .i64 6, .int .i64 0, .int .i64 2, .int .i64 0]
theorem N1_in (w : World) : NetIn (w.heap.size + 3) (((w.alloc (.cells n1cells 52)).alloc (.cells #[.int .i64 3] 3)).alloc
    (.cells #[.int .i64 1, .slice (some ⟨w.heap.size, 0, none⟩) 4 4, .slice (some ⟨w.heap.size + 1, 0, none⟩) 1 1] 48)) (w.heap.size + 2) (some ⟨w.heap.size, 0, none⟩) 4 (some ⟨w.heap.size + 1, 0, none⟩) 1 N1 := by
  have hb : (((w.alloc (.cells n1cells 52)).alloc (.cells #[.int .i64 3] 3)).alloc
    (.cells #[.int .i64 1, .slice (some ⟨w.heap.size, 0, none⟩) 4 4, .slice (some ⟨w.heap.size + 1, 0, none⟩) 1 1] 48)).heap[w.heap.size + 2]? = some (.cells #[.int .i64 1, .slice (some ⟨w.heap.size, 0, none⟩) 4 4, .slice (some ⟨w.heap.size + 1, 0, none⟩) 1 1] 48 (0, 0)) := by
    have h := alloc_at ((w.alloc (.cells n1cells 52)).alloc (.cells #[.int .i64 3] 3))
      (.cells #[.int .i64 1, .slice (some ⟨w.heap.size, 0, none⟩) 4 4, .slice (some ⟨w.heap.size + 1, 0, none⟩) 1 1] 48)
    simp only [World.size_alloc] at h
    exact h
  refine ⟨by rw [cell_block hb]; rfl, by rw [cell_block hb]; rfl, by rw [cell_block hb]; rfl, .inr ⟨w.heap.size, 0, rfl, by omega, ?_⟩, .inr ⟨w.heap.size + 1, 0, rfl, by omega, ?_⟩, by omega, by unfold maxLen; decide, by unfold maxLen; decide⟩
  · have h1 := alloc_at w (.cells n1cells 52)
    intro j hj
    rw [Nat.zero_add]
    refine (cell_block (cs := n1cells) (T := 52) ?_ j).trans ?_
    · rw [Below.heap_alloc _ _ _ (by simp; omega), Below.heap_alloc _ _ _ (by simp)]
      exact h1
    · have h16 : j < 16 := hj
      have : j = 0 ∨ j = 1 ∨ j = 2 ∨ j = 3 ∨ j = 4 ∨ j = 5 ∨ j = 6 ∨ j = 7 ∨ j = 8 ∨ j = 9 ∨ j = 10 ∨ j = 11 ∨ j = 12 ∨ j = 13 ∨ j = 14 ∨ j = 15 := by omega
      rcases this with rfl | rfl | rfl | rfl | rfl | rfl | rfl | rfl | rfl | rfl | rfl | rfl | rfl | rfl | rfl | rfl <;> rfl
  · have h1 := alloc_at (w.alloc (.cells n1cells 52)) (.cells #[.int .i64 3] 3)
    rw [World.size_alloc] at h1
    intro j hj
    rw [Nat.zero_add]
    refine (cell_block (cs := #[.int .i64 3]) (T := 3) ?_ j).trans ?_
    · rw [Below.heap_alloc _ _ _ (by simp)]
      exact h1
    · have : j < 1 := hj
      match j, this with
      | 0, _ => rfl
set_option maxHeartbeats 1600000 in
theorem cleaned_any (w : World) : Calls Try.prog 37 #[] w (Yes w) := by
  have hn := hid (N1_in w)
  have hb0 : Below w.heap.size w (((w.alloc (.cells n1cells 52)).alloc (.cells #[.int .i64 3] 3)).alloc
    (.cells #[.int .i64 1, .slice (some ⟨w.heap.size, 0, none⟩) 4 4, .slice (some ⟨w.heap.size + 1, 0, none⟩) 1 1] 48)) :=
    (((Below.refl _ _).alloc (Nat.le_refl _) _).alloc (by simp) _).alloc (by simp; omega) _
  have HB0 := hid hb0
  clear hb0
  go_enter Try.func37, Try.ntmps37
  go_upto_region 2 with fail
  go_wp2_with (first
    | (go_at_call 40; refine (Clean_right _ _ _ _ _ _ N1 _ hn.out (by simp) N1_right).mono ?_; rintro e w1 ⟨bn, a, c, a', c', N', rfl, hcl, hnet, hbel⟩; have hsm := hcl.same N1_right; have HR1 := hid hsm.right; have hg1 := hsm.gates; rw [N1_gates] at hg1; have hgI : ((N'.gates : Nat) : Int) ≤ 3 := (by omega); have HO := hid hsm.outs; have HNET := hid hnet; have HB1 := hid (HB0.out.trans (hbel.mono (by simp; omega))); clear hsm hcl hnet hbel hg1)
    | (go_at_call 30; (with_reducible refine (Right_any _ bn a c a' c' N' w1 HNET.out (Nat.le_refl _)).mono ?_); rintro e w2 ⟨rfl, hbel⟩; rw [HR1.out]; have HNET2 := hid (HNET.out.stay hbel); have HB2 := hid (HB1.out.trans (hbel.mono HB1.out.size)); have hle2 := hbel.size; clear hbel)
    | (go_at_call 32; (with_reducible refine (Gates_any _ bn a c a' c' N' w2 HNET2.out hle2).mono ?_); rintro e w3 ⟨rfl, hbel⟩; have HNET3 := hid (HNET2.out.stay (hbel.mono hle2)); have HB3 := hid (HB2.out.trans (hbel.mono HB2.out.size)); have hle3 := Nat.le_trans hle2 hbel.size; have hlt3 := Nat.lt_of_lt_of_le HNET3.out.hb hle3; (have no3 := HNET3.out.outs); rw [HO.out] at no3; clear hbel))
  go_ret
  exact ⟨rfl, HB3.out⟩
end Go.Proofs.Ytlaeflpddehipaa

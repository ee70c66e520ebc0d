/- CleanTwice, walked. -/
import Derived.Test.YtlaeflpddehipaaCleanW
import Derived.Test.YtlaeflpddehipaaCleanTwo
import Derived.Test.YtlaeflpddehipaaJoins
import Derived.Test.YtlaeflpddehipaaIndexF
import Derived.Test.YtlaeflpddehipaaBox1
set_option linter.unusedVariables false
namespace Go.Proofs.Ytlaeflpddehipaa
open Go.RowKit
attribute [local go_sem ↓] Go.wp_at_zero Go.wp_at_succ

theorem entersReg : ∀ args w, (callFunc 39 args).run Try.prog w = .ok (.enter 39 args) w := fun _ _ => by kernel_rfl
theorem isReg_any (o p q n : Int) (w : World) :
    Calls Try.prog 39 #[.agg #[.int .i64 o, .int .i64 p, .int .i64 q, .int .i64 n]] w fun e w' => e = .returned (.bool (o == 4)) ∧ Below w.heap.size w w' := by
  go_enter Try.func39, Try.ntmps39
  go_wp2
  go_ret
  exact ⟨rfl, (Below.refl _ _).alloc (Nat.le_refl _) _⟩
def Net.hasReg (N : Net) : Bool := (List.range N.nodes.length).any fun j => (N.nodes.getD j GN.zero).op == 4
theorem hasReg_any (B b : Nat) (a : Option Addr) (c : Nat) (a' : Option Addr) (c' : Nat) (N : Net) (w : World) (h : NetIn B w b a c a' c' N) (hBw : B ≤ w.heap.size) :
    Calls Try.prog 38 #[.slice a N.nodes.length c, .func (.func 39) #[] #[]] w (Tells N.hasReg w) := by
  refine (contains_node B 39 #[] entersReg a N.nodes.length c (nodeCell N.nodes) (fun j => (N.nodes.getD j GN.zero).op == 4) w h.ln h.rn hBw ?_).mono ?_
  · intro W i hb hi
    have e1 : nodeCell N.nodes (i * 4) = .int .i64 (N.nodes.getD i GN.zero).op := by simp [nodeCell, GN.cell]
    have e2 : nodeCell N.nodes (i * 4 + 1) = .int .i64 (N.nodes.getD i GN.zero).a := by
      have h1 : (i * 4 + 1) / 4 = i := by omega
      have h2 : (i * 4 + 1) % 4 = 1 := by omega
      simp [nodeCell, h1, h2, GN.cell]
    have e3 : nodeCell N.nodes (i * 4 + 2) = .int .i64 (N.nodes.getD i GN.zero).b := by
      have h1 : (i * 4 + 2) / 4 = i := by omega
      have h2 : (i * 4 + 2) % 4 = 2 := by omega
      simp [nodeCell, h1, h2, GN.cell]
    have e4 : nodeCell N.nodes (i * 4 + 3) = .int .i64 (N.nodes.getD i GN.zero).next := by
      have h1 : (i * 4 + 3) / 4 = i := by omega
      have h2 : (i * 4 + 3) % 4 = 3 := by omega
      simp [nodeCell, h1, h2, GN.cell]
    show Calls Try.prog 39 #[.agg #[nodeCell N.nodes (i * 4), nodeCell N.nodes (i * 4 + 1), nodeCell N.nodes (i * 4 + 2), nodeCell N.nodes (i * 4 + 3)]] W _
    rw [e1, e2, e3, e4]
    refine (isReg_any _ _ _ _ W).mono ?_
    rintro e w' ⟨rfl, hb'⟩
    exact ⟨rfl, hb.trans (hb'.mono hb.size)⟩
  · rintro e w' ⟨rfl, hb'⟩
    exact ⟨rfl, hb'⟩
theorem hasReg_no {N : Net} (h : N.hasReg = false) : NoReg N.nodes := by
  intro j hj e
  unfold Net.hasReg at h
  rw [List.any_eq_false] at h
  exact h j (List.mem_range.2 hj) (by simpa using e)

section
variable (B : Nat) (a : Option Addr) (c : Nat) (a' : Option Addr) (c' : Nat) (N : Net) (w : World)
theorem cleanTwice_long (hs : N.small = false) : Calls Try.prog 9 #[.agg #[.int .i64 N.given, .slice a N.nodes.length c, .slice a' N.outs.length c']] w (Yes w) := by
  have HK0 := hid (Box1.first w (netVal a c a' c' N))
  have HS := hid hs
  clear hs
  go_enter Try.func9, Try.ntmps9
  go_wp2_with (go_at_call 28; (with_reducible refine (small_at a c a' c' N _ HS _).mono ?_); rintro e w1 ⟨rfl, hbel⟩; have HK1 := hid (HK0.out.next hbel); clear hbel HK0)
  go_ret
  exact ⟨rfl, HK1.out.b⟩
theorem cleanTwice_wrong (h : NetRows B w a c a' c' N) (hB : B ≤ w.heap.size) (hs : N.small = true) (hr : N.right = false) : Calls Try.prog 9 #[.agg #[.int .i64 N.given, .slice a N.nodes.length c, .slice a' N.outs.length c']] w (Yes w) := by
  have HK0 := hid (Box1.first w (netVal a c a' c' N))
  have HS := hid hs
  have HR := hid hr
  have H := hid h
  clear hs hr h
  go_enter Try.func9, Try.ntmps9
  go_wp2_with (first
    | (go_at_call 28; (with_reducible refine (small_at a c a' c' N _ HS _).mono ?_); rintro e w1 ⟨rfl, hbel⟩; have HK1 := hid (HK0.out.next hbel); clear hbel HK0)
    | (go_at_call 37; (with_reducible refine (cleaned_any _).mono ?_); rintro e w2 ⟨rfl, hbel⟩; have HK2 := hid (HK1.out.next hbel); clear hbel HK1)
    | (go_at_call 30; (with_reducible refine (Right_any _ _ _ _ _ _ N _ (HK2.out.net H.out hB) HK2.out.size).mono ?_); rintro e w3 ⟨rfl, hbel⟩; rw [HR.out]; have HK3 := hid (HK2.out.next hbel); clear hbel HK2))
  go_ret
  exact ⟨rfl, HK3.out.b⟩
theorem cleanTwice_keeps (h : NetRows B w a c a' c' N) (hB : B ≤ w.heap.size) (hs : N.small = true) (hr : N.right = true) (hg : N.hasReg = true) : Calls Try.prog 9 #[.agg #[.int .i64 N.given, .slice a N.nodes.length c, .slice a' N.outs.length c']] w (Yes w) := by
  have HK0 := hid (Box1.first w (netVal a c a' c' N))
  have HS := hid hs
  have HR := hid hr
  have HG := hid hg
  have H := hid h
  clear hs hr h hg
  go_enter Try.func9, Try.ntmps9
  go_wp2_with (first
    | (go_at_call 28; (with_reducible refine (small_at a c a' c' N _ HS _).mono ?_); rintro e w1 ⟨rfl, hbel⟩; have HK1 := hid (HK0.out.next hbel); clear hbel HK0)
    | (go_at_call 37; (with_reducible refine (cleaned_any _).mono ?_); rintro e w2 ⟨rfl, hbel⟩; have HK2 := hid (HK1.out.next hbel); clear hbel HK1)
    | (go_at_call 30; (with_reducible refine (Right_any _ _ _ _ _ _ N _ (HK2.out.net H.out hB) HK2.out.size).mono ?_); rintro e w3 ⟨rfl, hbel⟩; rw [HR.out]; have HK3 := hid (HK2.out.next hbel); have x1 := HK3.out.cell1; clear hbel HK2)
    | (go_at_call 38; (with_reducible refine (hasReg_any _ _ _ _ _ _ N _ (HK3.out.net H.out hB) HK3.out.size).mono ?_); rintro e w4 ⟨rfl, hbel⟩; rw [HG.out]; have HK4 := hid (HK3.out.next hbel); clear hbel HK3 x1))
  go_ret
  exact ⟨rfl, HK4.out.b⟩
theorem keep_cells2 {w3 w' : World} {b k1 d k2 : Nat} {x y : Value} (hlt : b < w3.heap.size) (hlt2 : d < w3.heap.size) (c1 : w3.cell? ⟨b, k1, none⟩ = some x) (c2 : w3.cell? ⟨d, k2, none⟩ = some y) (h : Below w3.heap.size w3 w') :
    w'.cell? ⟨b, k1, none⟩ = some x ∧ w'.cell? ⟨d, k2, none⟩ = some y ∧ Below w3.heap.size w3 w' :=
  ⟨(h.cell (p := ⟨b, k1, none⟩) hlt).trans c1, (h.cell (p := ⟨d, k2, none⟩) hlt2).trans c2, h⟩
set_option maxRecDepth 100000 in
set_option maxHeartbeats 6400000 in
theorem cleanTwice_right (h : NetRows B w a c a' c' N) (hB : B ≤ w.heap.size) (hs : N.small = true) (hr : N.right = true) (hg : N.hasReg = false) (ha : a = none → N.nodes.length = 0 ∧ c = 0) (ha' : a' = none → N.outs.length = 0 ∧ c' = 0) : Calls Try.prog 9 #[.agg #[.int .i64 N.given, .slice a N.nodes.length c, .slice a' N.outs.length c']] w (Yes w) := by
  have HK0 := hid (Box1.first w (netVal a c a' c' N))
  have hN60 : N.nodes.length ≤ 60 ∧ N.outs.length ≤ 30 ∧ N.given ≤ 200 := by simpa [Net.small, and_assoc] using hs
  have HN60 := hid hN60
  have HS := hid hs
  have HR := hid hr
  have HG := hid hg
  have H := hid h
  have HA := hid ha
  have HA' := hid ha'
  clear hs hr h hg ha ha' hN60
  go_enter Try.func9, Try.ntmps9
  go_upto_region 8 with (first
    | (go_at_call 28; (with_reducible refine (small_at a c a' c' N _ HS _).mono ?_); rintro e w1 ⟨rfl, hbel⟩; have HK1 := hid (HK0.out.next hbel); clear hbel HK0)
    | (go_at_call 37; (with_reducible refine (cleaned_any _).mono ?_); rintro e w2 ⟨rfl, hbel⟩; have HK2 := hid (HK1.out.next hbel); clear hbel HK1)
    | (go_at_call 30; (with_reducible refine (Right_any _ _ _ _ _ _ N _ (HK2.out.net H.out hB) HK2.out.size).mono ?_); rintro e w3 ⟨rfl, hbel⟩; rw [HR.out]; have HK3 := hid (HK2.out.next hbel); have x1 := HK3.out.cell1; clear hbel HK2)
    | (go_at_call 38; (with_reducible refine (hasReg_any _ _ _ _ _ _ N _ (HK3.out.net H.out hB) HK3.out.size).mono ?_); rintro e w4 ⟨rfl, hbel⟩; rw [HG.out]; have HK4 := hid (HK3.out.next hbel); clear HK3 x1 hbel; have x0 := HK4.out.cell0; have x1 := HK4.out.cell1; have x2 := HK4.out.cell2)
    | (go_at_call 34; (with_reducible refine (beside_at B a c a' c' N a c a' c' N true H.out H.out hB HK4.out.b HS.out HS.out HR.out HR.out HA.out HA'.out).mono ?_); rintro e w6 ⟨ad, cn, ao, co, rfl, hJ, hbel⟩; have HK6 := hid (HK4.out.next hbel); have HJ := hid hJ; clear hbel hJ x0 x1 x2 HK4))
  obtain ⟨J, hJJ⟩ : ∃ J, N.beside N true = J := ⟨_, rfl⟩
  have HJJ := hid hJJ
  rw [hJJ] at HJ ⊢
  have hb7 : Below w6.heap.size w6 (w6.alloc (.cells #[.int .i64 J.given, .slice ad J.nodes.length cn, .slice ao J.outs.length co] 48)) := (Below.refl _ _).alloc (Nat.le_refl _) _
  have JI : NetIn (w6.heap.size + 1) (w6.alloc (.cells #[.int .i64 J.given, .slice ad J.nodes.length cn, .slice ao J.outs.length co] 48)) w6.heap.size ad cn ao co J := HJ.out.box (Nat.le_refl _) (box_top _ _ _) hb7 _ (by omega) (by omega)
  have HK7 := hid (HK6.out.next hb7)
  have hs67 : w6.heap.size + 1 ≤ (w6.alloc (.cells #[.int .i64 J.given, .slice ad J.nodes.length cn, .slice ao J.outs.length co] 48)).heap.size := by simp
  have HJR : Hid (J.right = true) := by
    have h1 := HN60.out
    unfold Hid
    rw [← hJJ]
    exact Net.beside_right true HR.out HR.out (by omega) (by omega) (by omega)
  generalize w6.alloc (.cells #[.int .i64 J.given, .slice ad J.nodes.length cn, .slice ao J.outs.length co] 48) = w7 at *
  have HJI := hid JI
  obtain ⟨bm, hbm⟩ : ∃ bm, w6.heap.size = bm := ⟨_, rfl⟩
  rw [hbm] at HJI hs67 ⊢
  clear hb7 JI HJ HK6 hJJ hbm
  go_upto_region 10 with (first
    | (go_at_call 40; (with_reducible refine (Clean_right _ _ _ _ _ _ N w7 (HK7.out.net H.out hB) HK7.out.size HR.out).mono ?_); rintro e w8 ⟨ba, aa, ca, aa', ca', NA, rfl, hcl, hnet, hbel⟩; have HCA := hid hcl; have HNA := hid hnet; have HK8 := hid (HK7.out.next hbel); have HJI8 := hid (HJI.out.stay (hbel.mono hs67)); have hsz8 := Nat.le_trans hs67 hbel.size; clear hcl hnet hbel HJI)
    | (go_at_call 40; (with_reducible refine (Clean_right _ _ _ _ _ _ J w8 HJI8.out hsz8 HJR.out).mono ?_); rintro e w9 ⟨bb, ab, cb, ab', cb', NB, rfl, hcl, hnet, hbel⟩; have HCB := hid hcl; have HNB := hid hnet; have HNA9 := hid (HNA.out.stay hbel); have hle9 := hbel.size; have HK9 := hid (HK8.out.next hbel); clear hcl hnet hbel HNA HK8))
  have hcb := HCB.out
  rw [← HJJ.out] at hcb
  have hres := clean_beside HR.out (hasReg_no HG.out) HCA.out hcb
  have hgI : ((NB.gates : Nat) : Int) ≤ ((NA.gates : Nat) : Int) := by omega
  have hlen : ((NB.outs.length : Nat) : Int) = 2 * (N.outs.length : Int) := by omega
  have h30 := HN60.out.2.1
  have c1 := HNB.out.outs
  have c2 := HK9.out.cell2
  have hl1 := HNB.out.hb
  have hl2 : w.heap.size < w9.heap.size := HK9.out.size
  have hbl9 : Below w9.heap.size w9 w9 := Below.refl _ _
  have HLEN := hid hlen
  clear hres hcb hlen
  go_region_held3 (fun w' => w'.cell? ⟨bb, 2, none⟩ = some (.slice ab' NB.outs.length cb') ∧ w'.cell? ⟨w.heap.size, 2, none⟩ = some (.slice a' N.outs.length c') ∧ Below w9.heap.size w9 w')
    ((refine keep_cells2 hl1 hl2 c1 c2 ?_; first | assumption | exact Below.refl _ _ | exact (Below.refl _ _).drew))
    (first
      | (go_at_call 32; (with_reducible refine (gates_from HNB.out (Nat.le_refl _) (by first | assumption | exact Below.refl _ _ | exact (Below.refl _ _).drew)).mono ?_); rintro e wx ⟨rfl, hbx⟩)
      | (go_at_call 32; (with_reducible refine (gates_from HNA9.out hle9 (by first | assumption | exact Below.refl _ _ | exact (Below.refl _ _).drew)).mono ?_); rintro e wx ⟨rfl, hbx⟩)
      | fail)
  all_goals
    go_wp2_with fail
    go_ret
    refine ⟨ret_bool ?_, HK9.out.b.trans (Below.mono (by assumption) HK9.out.b.size)⟩
    rw [HLEN.out, show ((2 : Int) * (N.outs.length : Int)) = ((2 * N.outs.length : Nat) : Int) by omega, wrap_lowN _ (by omega)]
    simp
/-- All its cases. -/
theorem cleanTwice_any (h : NetRows B w a c a' c' N) (hB : B ≤ w.heap.size) (ha : a = none → N.nodes.length = 0 ∧ c = 0) (ha' : a' = none → N.outs.length = 0 ∧ c' = 0) : Calls Try.prog 9 #[.agg #[.int .i64 N.given, .slice a N.nodes.length c, .slice a' N.outs.length c']] w (Yes w) := by
  cases hs : N.small
  · exact cleanTwice_long a c a' c' N w hs
  · cases hr : N.right
    · exact cleanTwice_wrong B a c a' c' N w h hB hs hr
    · cases hg : N.hasReg
      · exact cleanTwice_right B a c a' c' N w h hB hs hr hg ha ha'
      · exact cleanTwice_keeps B a c a' c' N w h hB hs hr hg
end
end Go.Proofs.Ytlaeflpddehipaa

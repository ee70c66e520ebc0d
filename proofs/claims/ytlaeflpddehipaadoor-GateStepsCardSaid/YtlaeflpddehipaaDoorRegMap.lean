/- The document's registers: a map from node numbers to bits; Net.First. -/
import Derived.Test.YtlaeflpddehipaaDoorRefNet
import Derived.Test.YtlaeflpddehipaaDoorNetNew
import Derived.Maps.RangeWalk
import Derived.Maps.Ext
import Derived.Maps.OwnSet
import Derived.Maps.Views
set_option linter.unusedVariables false
namespace Go.Proofs.YtlaeflpddehipaaDoor
open Go.RowKit Go.Maps

theorem Tryd.intKey : Keyed Tryd.prog 3 := int_keyed Tryd.underlying3
theorem plainElem_bool_inv {H : Type} {P : Program} {e : TypeId} (he : P.underlying e = some .bool) {v : Value} {z : DataW H × List MemPlace} (h : plainElem P e v = some z) : ∃ b, v = .bool b ∧ z = (.lit (.bool b), []) := by
  unfold plainElem at h
  rw [he] at h
  cases v <;> simp at h
  exact ⟨_, rfl, h.symm⟩
theorem wf_low' {z : Int} (h : 0 ≤ z ∧ z ≤ 1000000) : (Lit.int .i64 z).wf = true := by
  have e1 : IntKind.i64.min = -9223372036854775808 := by decide
  have e2 : IntKind.i64.max = 9223372036854775807 := by decide
  unfold Lit.wf
  simp [e1, e2]
  omega
/-- The registers among the first k nodes, as keys. -/
def regKey (l : List GN) (k : Nat) : Lit → Bool
  | .int .i64 i => decide (0 ≤ i ∧ i < (k : Int) ∧ (l.getD i.toNat GN.zero).op = 4)
  | _ => false
/-- What a map holds: just these keys, these bits. -/
def RegD (f : Nat → Bool) (S : Lit → Bool) (D : DataW Unit) : Prop :=
  (∀ x, has D x = S x) ∧ ∀ i : Nat, S (.int .i64 (i : Int)) = true → ∀ z, D.atKey (.int .i64 (i : Int)) z = .lit (.bool (f i))
theorem regD_empty (f : Nat → Bool) (l : List GN) : RegD f (regKey l 0) (.map []) := by
  have e : ∀ x, regKey l 0 x = false := by
    intro x
    unfold regKey
    split
    · exact decide_eq_false (by omega)
    · rfl
  exact ⟨fun x => by rw [e]; rfl, fun i h => by rw [e] at h; cases h⟩
theorem regD_put {f : Nat → Bool} {S S' : Lit → Bool} {D : DataW Unit} {i : Nat} {b : Bool} (h : RegD f S D) (hm : IsMap D) (hb : f i = b) (h1 : S' (.int .i64 (i : Int)) = true) (h2 : ∀ x, x ≠ .int .i64 (i : Int) → S' x = S x) :
    RegD f S' (D.put (.int .i64 (i : Int)) (.lit (.bool b))) := by
  refine ⟨fun x => ?_, fun j hj z => ?_⟩
  · by_cases hx : x = .int .i64 (i : Int)
    · subst hx; rw [h1]; exact has_put_same hm (show WideAt.IsKeyLit (.int .i64 (i : Int)) from trivial) _
    · rw [has_put_other hx, h2 x hx]; exact h.1 x
  · by_cases hx : j = i
    · subst hx; rw [atKey_put_same hm (show WideAt.IsKeyLit (.int .i64 (j : Int)) from trivial), hb]
    · have hne : (Lit.int .i64 (j : Int)) ≠ .int .i64 (i : Int) := by intro e; injection e with _ e; omega
      rw [atKey_put_other hne]
      exact h.2 j (by rw [← h2 _ hne]; exact hj) z
theorem regKey_succ_no {l : List GN} {k : Nat} (h : (l.getD k GN.zero).op ≠ 4) : regKey l (k + 1) = regKey l k := by
  funext x
  unfold regKey
  split
  · rename_i i
    by_cases hi : i = (k : Int)
    · subst hi
      have h' : ¬ (l.getD (k : Int).toNat GN.zero).op = 4 := by simpa using h
      rw [decide_eq_false (fun hh => h' hh.2.2), decide_eq_false (fun hh => h' hh.2.2)]
    · exact decide_eq_decide.2 ⟨fun ⟨a, b, c⟩ => ⟨a, by omega, c⟩, fun ⟨a, b, c⟩ => ⟨a, by omega, c⟩⟩
  · rfl
theorem regKey_succ_yes {l : List GN} {k : Nat} (h : (l.getD k GN.zero).op = 4) : regKey l (k + 1) (.int .i64 (k : Int)) = true := by
  unfold regKey
  exact decide_eq_true ⟨by omega, by omega, by simpa using h⟩
theorem regKey_succ_other {l : List GN} {k : Nat} (x : Lit) (hx : x ≠ .int .i64 (k : Int)) : regKey l (k + 1) x = regKey l k x := by
  unfold regKey
  split
  · rename_i i
    have hi : i ≠ (k : Int) := fun e => hx (by rw [e])
    exact decide_eq_decide.2 ⟨fun ⟨a, b, c⟩ => ⟨a, by omega, c⟩, fun ⟨a, b, c⟩ => ⟨a, by omega, c⟩⟩
  · rfl
/-- The registers' map, in memory. -/
def Regs (w : World) (bs : Nat) (l : List GN) (f : Nat → Bool) (n : Nat) : Prop :=
  ∃ D : DataW Unit, w.ownsMap Tryd.prog 3 (plainElem Tryd.prog 4) bs n D ∧ RegD f (regKey l l.length) D
section
variable (B : Nat) (a : Option Addr) (c : Nat) (a' : Option Addr) (c' : Nat) (N : Net) (w : World)
set_option maxRecDepth 100000 in
set_option maxHeartbeats 1600000 in
theorem First_any (h : NetRows B w a c a' c' N) (hB : B ≤ w.heap.size) (hl : N.nodes.length ≤ 20000) :
    Calls Tryd.prog 11 #[.agg #[.int .i64 N.given, .slice a N.nodes.length c, .slice a' N.outs.length c']] w fun e w' =>
      ∃ bs, e = .returned (.map (some bs)) ∧ w.heap.size ≤ bs ∧ Regs w' bs N.nodes (fun i => N.first.getD i false) N.nodes.length ∧ Below w.heap.size w w' := by
  have hmm := @run_makeMap Tryd.prog
  have HI := hid (rbox B a c a' c' N w h hB)
  have hb1 : Below w.heap.size w (w.alloc (.cells #[.int .i64 N.given, .slice a N.nodes.length c, .slice a' N.outs.length c'] 29)) := (Below.refl _ _).alloc (Nat.le_refl _) _
  have HB1 := hid hb1
  have hsz1 : (w.alloc (.cells #[.int .i64 N.given, .slice a N.nodes.length c, .slice a' N.outs.length c'] 29)).heap.size = w.heap.size + 1 := by simp
  have HSZ1 := hid hsz1
  obtain ⟨n, hN⟩ : ∃ n, N.nodes.length = n := ⟨_, rfl⟩
  rw [hN] at hl
  have HN := hid hN
  have hmx : n < maxLen := by unfold maxLen; omega
  rw [hN] at HI HB1 HSZ1 ⊢
  clear h hN hb1 hsz1
  go_enter Tryd.func11, Tryd.ntmps11
  go_upto_region 1 with fail
  generalize w.alloc (.cells #[.int .i64 N.given, .slice a n c, .slice a' N.outs.length c'] 29) = w1 at *
  have hlt1 : w.heap.size < w1.heap.size := by have := HSZ1.out; omega
  obtain ⟨w2, hw2⟩ : ∃ w2, w1.alloc (.map #[] 0) = w2 := ⟨_, rfl⟩
  have HM0 := hid (show w2.ownsMap (H := Unit) Tryd.prog 3 (plainElem Tryd.prog 4) w1.heap.size 0 (.map []) by rw [← hw2]; exact World.ownsMap_made _ _ _ _)
  have HB2 := hid (show Below w1.heap.size w1 w2 by rw [← hw2]; exact (Below.refl _ _).alloc (Nat.le_refl _) _)
  have hn1 : w2.cell? ⟨w.heap.size, 1, none⟩ = some (.slice a n c) := by
    have h1 := HI.out.nodes
    rw [HN.out] at h1
    exact (HB2.out.cell (p := ⟨w.heap.size, 1, none⟩) hlt1).trans h1
  go_upto_region 2 with fail
  go_wp2_with fail
  clear hn1
  go_loopw [10] (fun v wr => ∃ (k : Nat) (D : DataW Unit), k ≤ n ∧ v = .int .i64 k ∧ Below w1.heap.size w1 wr ∧ wr.ownsMap Tryd.prog 3 (plainElem Tryd.prog 4) w1.heap.size k D ∧ RegD (fun i => N.first.getD i false) (regKey N.nodes k) D) (fun v _ => n - (intOf v).toNat)
  case atStart => exact ⟨0, _, Nat.zero_le _, rfl, HB2.out, HM0.out, regD_empty _ _⟩
  case round =>
    obtain ⟨k, D, hk, rfl, hbel, hown, hrd⟩ := hrel
    have hsz := hbel.size
    have HBL := hid hbel
    have HOW := hid hown
    have HRD := hid hrd
    clear hbel hown hrd
    by_cases hlt : k < n
    · have h' := HI.out.stay (HBL.out.mono (by have := HSZ1.out; omega))
      obtain ⟨b1, off, rfl, hb1, c0, c1, c2, c3⟩ := h'.node k (by rw [HN.out]; exact hlt)
      have hkI : (k : Int) < n := by omega
      have hk0 : (0 : Int) ≤ k := by omega
      obtain ⟨x, hx⟩ : ∃ x, N.nodes.getD k GN.zero = x := ⟨_, rfl⟩
      rw [hx] at c0 c1 c2 c3
      have hf : N.first.getD k false = x.first := by
        have hk1 : k < N.nodes.length := by rw [HN.out]; exact hlt
        rw [← hx]
        simp [Net.first, List.getD_eq_getElem?_getD, hk1]
      have HF := hid hf
      have HX := hid hx
      obtain ⟨op, xa, xb, xn⟩ := x
      simp only at c0 c1 c2 c3
      clear h' hx hf
      by_cases h4 : op = 4
      · subst h4
        have HY := hid (regKey_succ_yes (l := N.nodes) (k := k) (by rw [HX.out]))
        have hown' := HOW.out.alloc (.cells #[.int .i64 4, .int .i64 xa, .int .i64 xb, .int .i64 xn] 31)
        have hwf : (Lit.int .i64 (k : Int)).wf = true := wf_low' ⟨hk0, by omega⟩
        go_wp2_with (first
          | (at_mapUpdate; refine wpList_mapUpdate_own _ rfl _ _ _ 43 rfl 3 4 Tryd.intKey Tryd.underlying43 _ w1.heap.size k D rfl hown' (by omega) _ _ _ rfl rfl (keyOf_int_mk Tryd.underlying3 hwf) _ [] (plainElem_bool Tryd.underlying4 _) ?_; intro w3 hown3 hg3; go_frame)
          | go_in)
        go_roundw
        case rel =>
          refine ⟨k + 1, _, by omega, by go_num, (HBL.out.alloc hsz _).grown hg3 (by have := World.grownBy_alloc; simp; omega) (fun j hj => by cases hj; exact Nat.le_refl _), hown3, regD_put HRD.out HOW.out.isMap ?_ HY.out (fun x hx => regKey_succ_other x hx)⟩
          rw [HF.out]
          rfl
        case measure => simp [intOf]; omega
      · have HY := hid (regKey_succ_no (l := N.nodes) (k := k) (by rw [HX.out]; exact h4))
        have hd : decide (op = 4) = false := decide_eq_false h4
        go_wp2_with fail
        go_roundw
        case rel => exact ⟨k + 1, D, by omega, by go_num, HBL.out.alloc hsz _, (HOW.out.alloc _).mono (by omega), by rw [HY.out]; exact HRD.out⟩
        case measure => simp [intOf]; omega
    · obtain rfl : k = n := by omega
      go_wp2
      go_ret
      exact ⟨_, rfl, by omega, ⟨D, HOW.out, by rw [HN.out]; exact HRD.out⟩, HB1.out.trans (HBL.out.mono (by omega))⟩
end
end Go.Proofs.YtlaeflpddehipaaDoor

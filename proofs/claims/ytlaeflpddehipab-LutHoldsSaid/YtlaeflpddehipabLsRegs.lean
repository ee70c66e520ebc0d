/- Simulators of nets of tables: Regs, Put. -/
import Derived.Test.YtlaeflpddehipabLsNew
import Derived.Test.YtlaeflpddehipabSrc
import Derived.Lib.SliceRun
set_option linter.unusedVariables false
set_option linter.unusedSimpArgs false
set_option linter.unusedSectionVars false
namespace Go.Proofs.Ytlaeflpddehipab
open Go.RowKit
attribute [local go_sem ↓] Go.wp_at_zero Go.wp_at_succ

/-- A copy of bits comes back, in a row of its own; what was there stays. -/
def Copies (l : List Bool) (w : World) (e : Ending) (w' : World) : Prop :=
  ∃ v, e = .returned v ∧ w'.ownsRow w.heap.size 4 1 v l.length (l.map .bool) ∧ Below w.heap.size w w'
theorem bitsNews {B : Nat} {W : World} {a : Option Addr} {n : Nat} {l : List Bool} (h : Cells B W a n (fun j => .bool (l.getD j false))) (hl : l.length = n) :
    ∀ ad', a = some ad' → ∀ j u, (l.map Value.bool)[j]? = some u → W.cell? (ad'.add j) = some u := by
  rintro ad' rfl
  exact h.news (by simpa using hl) (fun j hj => by simp [List.getD_eq_getElem?_getD, hl, hj])
set_option maxRecDepth 100000 in
set_option maxHeartbeats 800000 in
theorem Clone_any (B : Nat) (a : Option Addr) (n c : Nat) (l : List Bool) (w : World) (hB : B ≤ w.heap.size) (hl : l.length = n) (hc : Cells B w a n (fun j => .bool (l.getD j false))) (hn : a = none → n = 0 ∧ c = 0) (hm : n ≤ 1000000) :
    Calls Try.prog 21 #[.slice a n c] w (Copies l w) := by
  obtain ⟨i0, hi, hz0, hz1, hz2⟩ := info_parts Try.lsInfoBool
  have qT : ∀ (w : World) (a : Option Addr) (n c n' c' : Nat), (binOp .eql 36 (.slice a n c) (.slice none n' c')).run Try.prog w = .ok (.bool a.isNone) w := fun w a n c n' c' => Lib.run_eql_slice_nil w _ _ a n c n' c' Try.underlying36
  have HL := hid hl
  have HC := hid hc
  have HN := hid hn
  have HB := hid hB
  cases a with
  | none =>
    obtain ⟨rfl, rfl⟩ := hn rfl
    clear hl hc hn
    go_enter Try.func21, Try.ntmps21
    go_wp2
    go_ret
    refine ⟨_, rfl, ?_, Below.refl _ _⟩
    have : l = [] := List.eq_nil_of_length_eq_zero HL.out
    subst this
    exact World.ownsRow_nil _ _ _ _
  | some ad =>
    have HBA := hid (show Below w.heap.size w (w.alloc (.cells #[] 4)) from (Below.refl _ _).alloc (Nat.le_refl _) _)
    have HNEW := hid (bitsNews (HC.out.stay (HBA.out.mono HB.out)) HL.out)
    clear hl hc hn hB
    go_enter Try.func21, Try.ntmps21
    go_wp2_with (at_builtin; refine wpSrc _ rfl _ _ 36 rfl w.heap.size 4 i0 _ 1 1 Try.underlying36 hi hz0 hz1 hz2 rfl (by decide) (.slice (some ⟨w.heap.size, 0, none⟩) 0 0) 0 [] rfl (empty_g _ _ _ _ rfl (Nat.le_refl _)) (some ad) n c (l.map .bool) rfl HN.out (by simpa using HL.out) HNEW.out (bools_one _) ?_ ?_ ?_ ?_; (focus (unfold maxLen; omega)); (focus omega); (focus (simp; done)); intro av cv w1 HP hown hg)
    go_ret
    refine ⟨_, rfl, ?_, HBA.out.grown hg.out HBA.out.size (fun k hk => (HP.out.lt k hk).1)⟩
    rw [HL.out]
    have h := hown.out
    rw [Nat.zero_add, List.nil_append] at h
    exact h
theorem ls_set {C C' s b : Nat} {v0 v : Value} {W : World} {l : List Bool} (hC : C ≤ C') (hs : C ≤ s) (hm : W.heap[s]? = some (.cells #[.pointer (some ⟨b, 0, none⟩), v0] 56 (0, 0))) (hv : W.ownsRow C' 4 1 v l.length (l.map .bool)) :
    LSim C (W.setCell ⟨s, 1, none⟩ v) s b l := by
  obtain ⟨a, c, rfl, _⟩ := Cells.of_owns hv
  refine ⟨a, c, hs, ?_, rowSet (lsBase hv hC) hm (by decide) _ _⟩
  rw [boxSet hm 1]
  simp
theorem ls_grown {w W : World} {s : Nat} {v : Value} (hb : Below w.heap.size w W) : w.grownBy (W.setCell ⟨s, 1, none⟩ v) (some s) :=
  ⟨hb.os, hb.tape, hb.output, by have := hb.size; simpa [World.setCell] using this, fun k hk hne => (heap_setCell_other _ _ _ _ (fun e => hne (by rw [e]))).trans (hb.block k hk)⟩
section
variable (C s b : Nat) (l : List Bool) (w : World)
set_option maxHeartbeats 800000 in
theorem LsRegs_any (h : LSim C w s b l) (hm : l.length ≤ 1000000) :
    Calls Try.prog 10 #[.pointer (some ⟨s, 0, none⟩)] w (Copies l w) := by
  obtain ⟨a, c, hs, hbox, hown⟩ := h
  have c1 : w.cell? ⟨s, 1, none⟩ = some (.slice a l.length c) := (cell_block hbox 1).trans rfl
  have HO := hid hown
  clear hbox hown
  go_enter Try.func10, Try.ntmps10
  go_wp2_with (go_at_call 21; (with_reducible refine (Clone_any w.heap.size a l.length c l w (Nat.le_refl _) rfl (bits_cells HO.out) (ownsNil HO.out) hm).mono ?_); rintro e w1 ⟨v, rfl, hv, hb⟩)
  go_ret
  exact ⟨v, rfl, hv, hb⟩
set_option maxHeartbeats 800000 in
theorem LsPut_wrong (B : Nat) (a : Option Addr) (n c : Nat) (h : LSim C w s b l) (hne : n ≠ l.length) :
    Calls Try.prog 9 #[.pointer (some ⟨s, 0, none⟩), .slice a n c] w fun e w' => e = .returned (.iface 54 (.int .i64 1)) ∧ Below w.heap.size w w' := by
  obtain ⟨ar, cr, hs, hbox, hown⟩ := h
  have c1 : w.cell? ⟨s, 1, none⟩ = some (.slice ar l.length cr) := (cell_block hbox 1).trans rfl
  generalize l.length = m at *
  have d1 : decide ((n : Int) = (m : Int)) = false := decide_eq_false (by omega)
  clear hbox hown
  go_enter Try.func9, Try.ntmps9
  go_wp2
  go_ret
  exact ⟨rfl, Below.refl _ _⟩
set_option maxHeartbeats 1600000 in
theorem LsPut_right (B : Nat) (a : Option Addr) (n c : Nat) (p : List Bool) (h : LSim C w s b l) (hC : C ≤ w.heap.size) (hB : B ≤ w.heap.size) (hn : p.length = n) (he : n = l.length) (hp : Cells B w a n (fun j => .bool (p.getD j false))) (hnil : a = none → n = 0 ∧ c = 0) (hm : n ≤ 1000000) :
    Calls Try.prog 9 #[.pointer (some ⟨s, 0, none⟩), .slice a n c] w fun e w' => e = .returned .nilIface ∧ LSim C w' s b p ∧ w.grownBy w' (some s) := by
  obtain ⟨ar, cr, hs, hbox, hown⟩ := h
  rw [← he] at hbox
  have c1 : w.cell? ⟨s, 1, none⟩ = some (.slice ar n cr) := (cell_block hbox 1).trans rfl
  have HBOX := hid hbox
  have HN := hid hn
  have HP := hid hp
  have HNIL := hid hnil
  have HBB := hid hB
  have HCC := hid hC
  have HSS := hid hs
  have hlt := boxLt hbox
  clear hbox hown hn hp hnil he
  go_enter Try.func9, Try.ntmps9
  go_upto_region 4 with (go_at_call 21; (with_reducible refine (Clone_any B a n c p w HBB.out HN.out HP.out HNIL.out hm).mono ?_); rintro e w1 ⟨v, rfl, hv, hb⟩; obtain ⟨av, cv, rfl, _⟩ := Cells.of_owns hv; have hm1 := (hb.block s hlt).trans HBOX.out; have c2 : w1.cell? ⟨s, 1, none⟩ = some (.slice ar n cr) := (cell_block hm1 1).trans rfl; have hf := free_block hm1; have HV := hid hv; have HB1 := hid hb; have HM1 := hid hm1; clear hv hb hm1)
  go_wp2_with fail
  go_ret
  exact ⟨rfl, ls_set HCC.out HSS.out HM1.out HV.out, ls_grown HB1.out⟩
end
end Go.Proofs.Ytlaeflpddehipab

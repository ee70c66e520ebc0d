/- LutSteps: for every input the law answers true, and what it is given reads as it did. Condition: errors.errorType is laid as the program's text lays it; the card ties that. -/
import Derived.Test.YtlaeflpddehipaaDoorLaid
import Derived.Test.YtlaeflpddehipaaDoorTie
import Derived.Test.YtlaeflpddehipaaDoorCards
import Derived.SevenTiedAt
import Derived.Test.YtlaeflpddehipaaDoorLutS
import Derived.Test.YtlaeflpddehipaaDoorOpenLn
import Derived.Test.YtlaeflpddehipaaDoorOpenNet
set_option linter.unusedVariables false
namespace Go.Proofs.YtlaeflpddehipaaDoor
open Go.RowKit Go.ChangeShapes Go.WideShapes Go.ChangeAt

set_option maxRecDepth 100000 in
theorem lutSteps_yes {H : Type} {enc : TypeId × Value → H} (W : World) (base : Nat) (args : Array Value) (ds gs : List (DataW H)) (before : List MemPlace)
    (hval : ∀ (j : Nat) t v, Tryd.f4.params[j]? = some t → args[j]? = some v → Value.okWide Tryd.prog W .any base t v)
    (hW : DataW.Whole enc Tryd.prog Tryd.f4.params.toList Rows.lutStepsSpec.vars false W args.toList ds gs before) (hL : laidMetH Tryd.prog laid1 W) :
    Calls Tryd.prog 4 args W fun e W' => ∃ v, e = .returned v ∧ Rows.lutStepsSpec.post enc Tryd.prog Tryd.f4 false true false false W args v W' := by
  have hG := errType_of hL
  have hW' := hW
  obtain ⟨p, q, hA0, hV, rfl, hfz, hnd⟩ := hW
  have hA : DataW.TrodAll enc Tryd.prog W 0 (fun _ => true) true Tryd.f4.params.toList args.toList ds p := hA0
  rw [Tryd.params4] at hA hval
  obtain ⟨v0, vs0, d0, ds0, p0, q0, hargs, rfl, rfl, h0, r0⟩ := trodAll_cons hA
  obtain ⟨v1, vs1, d1, ds1, p1, q1, rfl, rfl, rfl, h1, r1⟩ := trodAll_cons r0
  obtain ⟨v2, vs2, d2, ds2, p2, q2, rfl, rfl, rfl, h2, r2⟩ := trodAll_cons r1
  obtain ⟨rfl, rfl, rfl⟩ := trodAll_nil r2
  obtain rfl : args = #[v0, v1, v2] := by cases args; simp_all
  obtain ⟨rfl, rfl⟩ := trodVars_none hV
  clear hA0 hA
  obtain ⟨cs0, rfl, hsz0⟩ := okWide_struct Tryd.underlying54 (hval 0 54 v0 rfl rfl)
  obtain ⟨fu0, hf0⟩ := h0
  obtain ⟨y0, L0, e0, hn0, hg0, hr0, hl0, ho0, ha0, hb0, hc0⟩ := open_ln hf0
  obtain rfl : cs0 = #[.int .i64 L0.given, .slice y0.ar L0.regs.length y0.cr, .slice y0.al L0.luts.length y0.cl, .slice y0.ao L0.outs.length y0.co] := Array.ext' (by simpa [Value.cells] using e0)
  obtain ⟨s1, n1, c1, rfl⟩ := okWide_slice Tryd.underlying26 (hval 1 26 v1 rfl rfl)
  obtain ⟨fu1, hf1⟩ := h1
  obtain ⟨a1, k1, g1, A1, C1, e1, ha1, hg1, hm1⟩ := open_bitrows hf1
  simp only [Value.cells, List.cons.injEq, Value.slice.injEq, and_true] at e1
  obtain ⟨rfl, rfl, rfl⟩ := e1
  obtain ⟨s2, n2, c2, rfl⟩ := okWide_slice Tryd.underlying45 (hval 2 45 v2 rfl rfl)
  obtain ⟨fu2, hf2⟩ := h2
  obtain ⟨a2, k2, l2, e2, ha2, hl2, hm2, hc2⟩ := open_bools Tryd.underlying45 Tryd.underlying4 (by kernel_rfl) hf2
  simp only [Value.cells, List.cons.injEq, Value.slice.injEq, and_true] at e2
  obtain ⟨rfl, rfl, rfl⟩ := e2
  refine (lutSteps_any W.heap.size _ _ _ _ _ _ _ _ _ _ W hg1 hc2 ha2 hn0 (Nat.le_refl _) hG).mono ?_
  rintro e W' ⟨rfl, hb⟩
  exact ⟨_, rfl, post_yes Tryd.laidOut (by kernel_rfl) (by kernel_rfl) Tryd.underlying4 rfl hW' hb rfl rfl rfl⟩

set_option maxRecDepth 100000 in
theorem lutSteps_lifted (os : Os) (started : os.Started) (H : Type) (enc : TypeId × Value → H) :
    ReturnsInHanded {} Tryd.checked os 4 .any (fun w args => (Rows.lutStepsSpec.pre enc Tryd.prog Tryd.f4 [] false w args ∧ laidMetH Tryd.prog laid1 w) ∧ sizedMet enc Tryd.prog Tryd.f4 (OpenSpec.ofChange Rows.lutStepsSpec) false w args) (Rows.lutStepsSpec.post enc Tryd.prog Tryd.f4 false true false false) := by
  refine returnsInHanded_of_change_and (C := Tryd.checked) (X := fun w _ => laidMetH Tryd.prog laid1 w) (fun _ _ _ hh h => h.of_heap hh) Tryd.own started (by kernel_rfl) Tryd.func4
    (ChangeSpec.witness_at (enc := enc) (C := Tryd.checked) (os := os) (X := fun w _ => laidMetH Tryd.prog laid1 w) false (laidWorld os) #[.agg #[.int .i64 0, .slice none 0 0, .slice none 0 0, .slice none 0 0], .slice none 0 0, .slice none 0 0] 8 rfl (by kernel_rfl) (by kernel_rfl) (by kernel_rfl) (by kernel_rfl) (by kernel_rfl) (laidWorld_met os _)) ?_
  intro W base args ds gs before hval hW _ _ hL _
  exact lutSteps_yes W base args ds gs before hval hW hL

theorem lutSteps_holds : Rows.LutStepsSaid :=
  OpenClaim.holds_of_wide 4 Tryd.f4 rfl rfl rfl rfl rfl rfl rfl ⟨rfl, rfl, rfl, rfl, rfl⟩ rfl rfl rfl rfl rfl (by kernel_rfl) Tryd.func4 (by kernel_rfl)
    (of_decide_eq_true (by kernel_rfl)) (by unfold Func.isWrapper; first | (rw [if_pos (by decide +kernel)]; kernel_rfl) | (rw [if_neg (by decide +kernel)]; exact ⟨rfl, rfl⟩))
    (fun os started H enc _ => lutSteps_lifted os started H enc)
theorem lutSteps_card : Rows.LutStepsCardSaid :=
  Claim7.holds_tied_plain_at .later [] [.handle] true _ true lutSteps_holds (fun _ h => by cases h) (by kernel_rfl) (fun _ h => by cases h) lutSteps_row_tie rfl ⟨rfl, rfl⟩ (by kernel_rfl) rfl
    (fun f fn hf hfn => by
      obtain rfl : f = 4 := Option.some.inj ((show Tryd.prog.funcNamed "rungwork/rungworklaw.LutSteps" = some 4 by kernel_rfl).symm.trans hf) |>.symm
      obtain rfl : fn = Tryd.f4 := (Option.some.inj (Tryd.func4.symm.trans hfn)).symm
      exact ⟨by kernel_rfl, fun j t ht => by
        rw [Tryd.params4] at ht
        have h3 : t = 54 ∨ t = 26 ∨ t = 45 := by
          rcases j with _ | _ | _ | j <;> simp at ht <;> (subst ht; simp)
        rcases h3 with rfl | rfl | rfl <;> exact (show Tryd.prog.wantsStandIn _ = false by kernel_rfl)⟩)
    (by kernel_rfl)
#print axioms lutSteps_card
end Go.Proofs.YtlaeflpddehipaaDoor

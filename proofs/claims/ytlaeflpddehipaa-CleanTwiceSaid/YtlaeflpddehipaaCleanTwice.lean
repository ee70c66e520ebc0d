/- CleanTwice: for every input the law answers true, and what it is given reads as it did. -/
import Derived.Test.YtlaeflpddehipaaLift
import Derived.Test.YtlaeflpddehipaaCTwice
import Derived.Test.YtlaeflpddehipaaOpenNet
set_option linter.unusedVariables false
namespace Go.Proofs.Ytlaeflpddehipaa
open Go.RowKit Go.ChangeShapes Go.WideShapes Go.ChangeAt

set_option maxRecDepth 100000 in
theorem cleanTwice_yes {H : Type} {enc : TypeId × Value → H} (W : World) (base : Nat) (args : Array Value) (ds gs : List (DataW H)) (before : List MemPlace)
    (hval : ∀ (j : Nat) t v, Try.f9.params[j]? = some t → args[j]? = some v → Value.okWide Try.prog W .any base t v)
    (hW : DataW.Whole enc Try.prog Try.f9.params.toList Rows.cleanTwiceSpec.vars false W args.toList ds gs before) :
    Calls Try.prog 9 args W fun e W' => ∃ v, e = .returned v ∧ Rows.cleanTwiceSpec.post enc Try.prog Try.f9 false true false false W args v W' := by
  have hW' := hW
  obtain ⟨p, q, hA0, hV, rfl, hfz, hnd⟩ := hW
  have hA : DataW.TrodAll enc Try.prog W 0 (fun _ => true) true Try.f9.params.toList args.toList ds p := hA0
  rw [Try.params9] at hA hval
  obtain ⟨v0, vs0, d0, ds0, p0, q0, hargs, rfl, rfl, h0, r0⟩ := trodAll_cons hA
  obtain ⟨rfl, rfl, rfl⟩ := trodAll_nil r0
  obtain rfl : args = #[v0] := by cases args; simp_all
  obtain ⟨rfl, rfl⟩ := trodVars_none hV
  clear hA0 hA
  obtain ⟨cs0, rfl, hsz0⟩ := okWide_struct Try.underlying48 (hval 0 48 v0 rfl rfl)
  obtain ⟨fu0, hf0⟩ := h0
  obtain ⟨a0, c0, b0, k0, M0, e0, hn0, ha0, hb0, hg0, hfit0, hfit0'⟩ := open_net hf0
  obtain rfl : cs0 = #[.int .i64 M0.given, .slice a0 M0.nodes.length c0, .slice b0 M0.outs.length k0] := Array.ext' (by simpa [Value.cells] using e0)
  refine (cleanTwice_any W.heap.size _ _ _ _ _ W hn0 (Nat.le_refl _) ha0 hb0).mono ?_
  rintro e W' ⟨rfl, hb⟩
  exact ⟨_, rfl, post_yes Try.laidOut (by kernel_rfl) (by kernel_rfl) Try.underlying4 rfl hW' hb rfl rfl rfl⟩

set_option maxRecDepth 100000 in
theorem cleanTwice_lifted (os : Os) (started : os.Started) (H : Type) (enc : TypeId × Value → H) :
    ReturnsInHanded {} Try.checked os 9 .any (Rows.cleanTwiceSpec.pre6 enc Try.prog Try.f9 Rows.cleanTwiceRow.domain false) (Rows.cleanTwiceSpec.post enc Try.prog Try.f9 false true false false) := by
  refine returnsInHanded_of_change (C := Try.checked) Try.own started (by kernel_rfl) Try.func9
    (ChangeSpec.witness6 (enc := enc) (C := Try.checked) false ⟨#[], #[.agg #[.int .i64 0, .slice none 0 0, .slice none 0 0]], []⟩ 8 (by kernel_rfl) (by kernel_rfl) (by kernel_rfl) (by kernel_rfl)) ?_
  intro W base args ds gs before hval hW _ _
  exact cleanTwice_yes W base args ds gs before hval hW

theorem cleanTwice_holds : Rows.CleanTwiceSaid :=
  OpenClaim.holds_of_wide 9 Try.f9 rfl rfl rfl rfl rfl rfl rfl ⟨rfl, rfl, rfl, rfl, rfl⟩ rfl rfl rfl rfl rfl (by kernel_rfl) Try.func9 (by kernel_rfl)
    (of_decide_eq_true (by kernel_rfl)) (by unfold Func.isWrapper; first | (rw [if_pos (by decide +kernel)]; kernel_rfl) | (rw [if_neg (by decide +kernel)]; exact ⟨rfl, rfl⟩))
    (fun os started H enc _ => cleanTwice_lifted os started H enc)
#print axioms cleanTwice_holds
end Go.Proofs.Ytlaeflpddehipaa

/- sameExpr: the same expression at two places. -/
import Derived.Test.YtlaeflpddehipabGreatDoorEx
import Derived.Test.YtlaeflpddehipabGreatDoorLexC
import Derived.BigQuiet
import Derived.Deep.QuietTactic
set_option linter.unusedVariables false
set_option linter.unusedSimpArgs false
namespace Go.Proofs.YtlaeflpddehipabGreatDoor
open Go.RowKit
attribute [local go_sem ↓] Go.wp_at_zero Go.wp_at_succ

theorem RepE.drewN {w : World} {P : Nat → Prop} {e : Ex} {v : Value} (h : RepE w P e v) (n : Nat) : RepE (w.drewN n) P e v := RepE.keep (W := w) (W' := w.drewN n) (fun k hk => ⟨hk, rfl⟩) h
theorem quiet_more {P : Program} {f : FuncId} {args : Array Value} {w : World} {n : Nat} {v : Value} (h : Calls P f args (w.drewN n) fun e w' => e = .returned v ∧ ∃ m, w' = (w.drewN n).drewN m) : Calls P f args (w.drewN n) fun e w'' => e = .returned v ∧ ∃ m, w'' = w.drewN m :=
  h.mono fun _ _ ⟨he, m, hm⟩ => ⟨he, n + m, by rw [hm, World.drewN_drewN]⟩
set_option maxRecDepth 100000 in
set_option maxHeartbeats 3200000 in
theorem sameExpr_any (P P' : Nat → Prop) : ∀ (e : Ex) (v v' : Value) (w : World), RepE w P e v → RepE w P' e v' → Calls Tryz.prog 31 #[v, v'] w fun e w' => e = .returned (.bool true) ∧ ∃ m, w' = w.drewN m := by
  intro e
  induction e with
  | none =>
    intro v v' w h h'
    have hv : v = .pointer none := h
    have hv' : v' = .pointer none := h'
    subst hv hv'
    go_enter Tryz.func31, Tryz.ntmps31
    go_wp2_with fail
    go_ret
    exact ⟨rfl, 0, rfl⟩
  | node ek el ev et en es eo l r ihl ihr =>
    intro v v' w h h'
    obtain ⟨b, vl, vr, rfl, hP, hb, hl, hr⟩ := h
    obtain ⟨b', vl', vr', rfl, hP', hb', hl', hr'⟩ := h'
    have IL := hid (fun m => quiet_more (ihl vl vl' (w.drewN m) (hl.drewN m) (hl'.drewN m)))
    have IR := hid (fun m => quiet_more (ihr vr vr' (w.drewN m) (hr.drewN m) (hr'.drewN m)))
    clear ihl ihr hl hr hl' hr'
    have c0 : w.cell? ⟨b, 0, none⟩ = some (.int .i64 ek) := (cell_block hb 0).trans rfl
    have c1 : w.cell? ⟨b, 1, none⟩ = some (.int .i64 el) := (cell_block hb 1).trans rfl
    have c2 : w.cell? ⟨b, 2, none⟩ = some (.int .i64 ev) := (cell_block hb 2).trans rfl
    have c3 : w.cell? ⟨b, 3, none⟩ = some (.int .i64 et) := (cell_block hb 3).trans rfl
    have c4 : w.cell? ⟨b, 4, none⟩ = some (st en) := (cell_block hb 4).trans rfl
    have c5 : w.cell? ⟨b, 5, none⟩ = some (st es) := (cell_block hb 5).trans rfl
    have c6 : w.cell? ⟨b, 6, none⟩ = some (st eo) := (cell_block hb 6).trans rfl
    have c7 : w.cell? ⟨b, 7, none⟩ = some vl := (cell_block hb 7).trans rfl
    have c8 : w.cell? ⟨b, 8, none⟩ = some vr := (cell_block hb 8).trans rfl
    have d0 : w.cell? ⟨b', 0, none⟩ = some (.int .i64 ek) := (cell_block hb' 0).trans rfl
    have d1 : w.cell? ⟨b', 1, none⟩ = some (.int .i64 el) := (cell_block hb' 1).trans rfl
    have d2 : w.cell? ⟨b', 2, none⟩ = some (.int .i64 ev) := (cell_block hb' 2).trans rfl
    have d3 : w.cell? ⟨b', 3, none⟩ = some (.int .i64 et) := (cell_block hb' 3).trans rfl
    have d4 : w.cell? ⟨b', 4, none⟩ = some (st en) := (cell_block hb' 4).trans rfl
    have d5 : w.cell? ⟨b', 5, none⟩ = some (st es) := (cell_block hb' 5).trans rfl
    have d6 : w.cell? ⟨b', 6, none⟩ = some (st eo) := (cell_block hb' 6).trans rfl
    have d7 : w.cell? ⟨b', 7, none⟩ = some vl' := (cell_block hb' 7).trans rfl
    have d8 : w.cell? ⟨b', 8, none⟩ = some vr' := (cell_block hb' 8).trans rfl
    clear hb hb' hP hP'
    have hs1 : (en == en) = true := by simp
    have hs2 : (es == es) = true := by simp
    have hs3 : (eo == eo) = true := by simp
    go_enter Tryz.func31, Tryz.ntmps31
    go_upto_region 3 with fail
    dsimp only [List.append]
    refine wp_region_quiet_lit (by kernel_rfl) (lexC_is (by kernel_rfl) (by kernel_rfl)) ?_
    iterate 11 (go_big_quiet_step ((first | (go_at_call 31; with_reducible exact IL.out _) | (go_at_call 31; with_reducible exact IR.out _))))
    as_aux_lemma =>
      iterate 11 (go_big_quiet_step ((first | (go_at_call 31; with_reducible exact IL.out _) | (go_at_call 31; with_reducible exact IR.out _))))
      as_aux_lemma =>
        iterate 11 (go_big_quiet_step ((first | (go_at_call 31; with_reducible exact IL.out _) | (go_at_call 31; with_reducible exact IR.out _))))
        as_aux_lemma =>
          iterate 11 (go_big_quiet_step ((first | (go_at_call 31; with_reducible exact IL.out _) | (go_at_call 31; with_reducible exact IR.out _))))
          as_aux_lemma =>
            iterate 11 (go_big_quiet_step ((first | (go_at_call 31; with_reducible exact IL.out _) | (go_at_call 31; with_reducible exact IR.out _))))
            as_aux_lemma =>
              iterate 11 (go_big_quiet_step ((first | (go_at_call 31; with_reducible exact IL.out _) | (go_at_call 31; with_reducible exact IR.out _))))
              as_aux_lemma =>
                iterate 11 (go_big_quiet_step ((first | (go_at_call 31; with_reducible exact IL.out _) | (go_at_call 31; with_reducible exact IR.out _))))
                as_aux_lemma =>
                  iterate 11 (go_big_quiet_step ((first | (go_at_call 31; with_reducible exact IL.out _) | (go_at_call 31; with_reducible exact IR.out _))))
                  as_aux_lemma =>
                    repeat (go_big_quiet_step ((first | (go_at_call 31; with_reducible exact IL.out _) | (go_at_call 31; with_reducible exact IR.out _))))
                    refine wpQuiet_nil ?_
                    intro _ hw'
                    obtain ⟨nq, hw''⟩ := hw'
                    subst hw''
                    go_wp2_with fail
                    go_ret
                    exact ⟨rfl, _, rfl⟩
end Go.Proofs.YtlaeflpddehipabGreatDoor

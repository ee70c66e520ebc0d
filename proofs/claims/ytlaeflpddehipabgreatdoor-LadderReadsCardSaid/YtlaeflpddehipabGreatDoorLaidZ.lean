/- What the laid variables give; a world in which they are laid; the wrap that keeps the condition and the world's shape. -/
import Derived.Test.YtlaeflpddehipabGreatDoorLdLaw
import Derived.Test.YtlaeflpddehipabGreatDoorLift
import Derived.ChangeSame
import Derived.ChangeVars
import Derived.JoinedOf
import Derived.LaidLaws
import Derived.LaidHandle
import Derived.LaidSub
import Derived.LaidMore
import Derived.Lay
import Derived.MakeChecks
import Derived.Handed
import Derived.HandedShaped
import Derived.Lib.LaidU8
import Derived.Stop.Joined
set_option linter.unusedVariables false
namespace Go.Proofs.YtlaeflpddehipabGreatDoor
open Go.ChangeShapes Go.WideShapes Go.RowKit

theorem Tryz.et : Tryz.prog.globalNamed "errors.errorType" = some 2 := by kernel_rfl
theorem Tryz.rt : (Tryz.prog.cutTypes.find? (·.1 == "internal/reflectlite.rtype")).map (·.2) = some 160 := by kernel_rfl
theorem Tryz.oneRow : ((List.range Tryz.prog.types.size).filter fun t => Tryz.prog.rowNamed t [101, 114, 114, 111, 114]) = [33] := by kernel_rfl
theorem Tryz.gFine : Tryz.prog.globalNamed "rungwork/rungworkref.Fine" = some 0 := by kernel_rfl
theorem Tryz.gFineT : (Tryz.prog.globals[0]?).map (·.type) = some 28 := by kernel_rfl
theorem Tryz.gKept : Tryz.prog.globalNamed "rungwork/tree.kept" = some 1 := by kernel_rfl
theorem Tryz.gKeptT : (Tryz.prog.globals[1]?).map (·.type) = some 139 := by kernel_rfl
theorem Tryz.und20 : Tryz.prog.underlying 139 = some (.array 20 9) := by kernel_rfl
theorem Tryz.oneStr : Tryz.prog.cellsOf 9 = 1 := by kernel_rfl
theorem Tryz.twoFault : Tryz.prog.cellsOf 28 = 2 := by kernel_rfl
theorem Tryz.undFault : ∃ f0 f1 : Field, Tryz.prog.underlying 28 = some (.struct #[f0, f1]) ∧ (Tryz.prog.underlying f0.type = some (.int .i64) ∧ f0.offset = 0 ∧ Tryz.prog.cellsOf f0.type = 1) ∧ Tryz.prog.underlying f1.type = some (.int .i64) ∧ f1.offset = 1 ∧ Tryz.prog.cellsOf f1.type = 1 :=
  ⟨_, _, Tryz.underlying28, ⟨by kernel_rfl, by kernel_rfl, by kernel_rfl⟩, by kernel_rfl, by kernel_rfl, by kernel_rfl⟩
def laid1 : List (String × DataW Unit) := [("errors.errorType", Rows.laid_errors_errorType)]
def laid5 : List (String × DataW Unit) := [("unicode/utf8.acceptRanges", Rows.laid_unicode_utf8_acceptRanges), ("errors.errorType", Rows.laid_errors_errorType), ("rungwork/rungworkref.Fine", Rows.laid_rungwork_rungworkref_Fine), ("rungwork/tree.kept", Rows.laid_rungwork_tree_kept), ("unicode/utf8.first", Rows.laid_unicode_utf8_first)]
def laid4 : List (String × DataW Unit) := [("unicode/utf8.acceptRanges", Rows.laid_unicode_utf8_acceptRanges), ("rungwork/rungworkref.Fine", Rows.laid_rungwork_rungworkref_Fine), ("rungwork/tree.kept", Rows.laid_rungwork_tree_kept), ("unicode/utf8.first", Rows.laid_unicode_utf8_first)]
theorem Tryz.handleEr : typeHandle Tryz.prog 33 = .pointer (some ⟨6, 33, none⟩) := by kernel_rfl
theorem errType_of {W : World} (h : laidMetH Tryz.prog laid1 W) : ErrType W := by
  have h' : laidMet Tryz.prog [] W ∧ handlesMet Tryz.prog laid1 W := h
  obtain ⟨name, u, ty, e1, e2, e3, e4, e5⟩ := h'.2 _ (List.mem_singleton.2 rfl)
  have en : name = [101, 114, 114, 111, 114] := (Option.some.inj e1).symm
  subst en
  obtain rfl := Option.some.inj (Tryz.rt.symm.trans e2)
  have hm : ty ∈ (List.range Tryz.prog.types.size).filter fun t => Tryz.prog.rowNamed t [101, 114, 114, 111, 114] := List.mem_filter.2 ⟨List.mem_range.2 e3, e4⟩
  rw [Tryz.oneRow] at hm
  obtain rfl := List.mem_singleton.1 hm
  rw [Tryz.handleEr] at e5
  unfold ErrType
  simpa using World.var?_cell Tryz.et e5 0
theorem laid5_one : (laid5.filter fun x => x.1 == "errors.errorType") = laid1 := by kernel_rfl
theorem laid5_four : (laid5.filter fun x => x.1 != "errors.errorType") = laid4 := by kernel_rfl
theorem laid5_err {W : World} (h : laidMetH Tryz.prog laid5 W) : ErrType W := errType_of (laid5_one ▸ h.filter fun x => x.1 == "errors.errorType")
theorem laid5_data {W : World} (h : laidMetH Tryz.prog laid5 W) : laidMet Tryz.prog laid4 W := by
  have h4 := h.filter fun x => x.1 != "errors.errorType"
  rw [laid5_four, MakeChecks.laidMetH_plain _ _ _ (by kernel_rfl)] at h4
  exact h4
theorem fine_of {W : World} (h : laidMetH Tryz.prog laid5 W) : Fin0 W := by
  obtain ⟨g, t, cs, fuel, p, hg, ht, hv, hd⟩ := Lib.laidMet.reads (laid5_data h) (.tail _ (.head _) : ("rungwork/rungworkref.Fine", Rows.laid_rungwork_rungworkref_Fine) ∈ laid4)
  obtain rfl := Option.some.inj (Tryz.gFine.symm.trans hg)
  obtain rfl := Option.some.inj (Tryz.gFineT.symm.trans ht)
  obtain ⟨f0, f1, hu, h0, h1⟩ := Tryz.undFault
  have hc : cs.toList = [0, -1].map fun z => Value.int .i64 z := Lib.ints_of_struct hu (fun i f hf => by
    match i with
    | 0 => obtain rfl := Option.some.inj hf; exact h0
    | 1 => obtain rfl := Option.some.inj hf; exact h1
    | _ + 2 => simp at hf) Tryz.twoFault hd
  have c0 : W.cell? ⟨0, 0, none⟩ = some (.int .i64 0) := by
    rw [World.var?_cell hg hv 0, ← Array.getElem?_toList, hc]; rfl
  have c1 : W.cell? ⟨0, 1, none⟩ = some (.int .i64 (-1)) := by
    rw [World.var?_cell hg hv 1, ← Array.getElem?_toList, hc]; rfl
  exact ⟨boxLt4 c0, c0, c1⟩
def keptBytes : List Bs := [[105, 110], [111, 117, 116], [118, 97, 114], [98, 111, 111, 108], [98, 121, 116, 101], [116, 105, 109, 101, 114], [99, 111, 117, 110, 116, 101, 114], [101, 100, 103, 101], [98, 101, 103, 105, 110], [101, 110, 100], [105, 102], [116, 104, 101, 110], [101, 108, 115, 105, 102], [101, 108, 115, 101], [97, 110, 100], [111, 114], [120, 111, 114], [110, 111, 116], [116, 114, 117, 101], [102, 97, 108, 115, 101]]
theorem kept_bytes : keptW = keptBytes := by decide +kernel
theorem kept_laid : (Rows.laid_rungwork_tree_kept : DataW Unit) = .agg (keptBytes.map fun l => .lit (.string l)) := rfl
theorem kept_of {W : World} (h : laidMetH Tryz.prog laid5 W) : Kept W := by
  obtain ⟨g, t, cs, fuel, p, hg, ht, hv, hd⟩ := Lib.laidMet.reads (laid5_data h) (.tail _ (.tail _ (.head _)) : ("rungwork/tree.kept", Rows.laid_rungwork_tree_kept) ∈ laid4)
  obtain rfl := Option.some.inj (Tryz.gKept.symm.trans hg)
  obtain rfl := Option.some.inj (Tryz.gKeptT.symm.trans ht)
  rw [kept_laid] at hd
  have hc : ∀ j, j < 20 → W.cell? ⟨1, 0 + j, none⟩ = some (.string (keptB.getD j ByteArray.empty)) := by
    intro j hj
    obtain ⟨fuel', d, q, h1, h2⟩ := Lib.array_elem Tryz.und20 hd j hj
    rw [Tryz.oneStr, Nat.mul_one] at h2
    obtain ⟨s, e1, e2, _⟩ := DataW.trod_string Tryz.underlying9 h2
    have e3 : cs.toList[j]? = some (.string s) := by
      have h0 : ((cs.toList.drop j).take 1)[0]? = some (.string s) := by rw [e1]; rfl
      simpa using h0
    have hk : j < keptBytes.length := hj
    rw [List.getElem?_map, List.getElem?_eq_getElem hk, Option.map_some, Option.some.injEq] at h1
    rw [← h1] at e2
    have e4 : s.data.toList = keptBytes[j] := by
      have := congrArg Prod.fst e2
      simpa using this.symm
    rw [Nat.zero_add, World.var?_cell hg hv j, ← Array.getElem?_toList, e3]
    congr 2
    unfold keptB
    rw [kept_bytes, List.getD, List.getElem?_map, List.getElem?_eq_getElem hk, Option.map_some, Option.getD_some, ← e4]
  exact ⟨boxLt4 (hc 0 (by decide)), hc⟩
theorem ready_of {W : World} (h : laidMetH Tryz.prog laid5 W) (hs : W.ShapedOpen Tryz.prog) : Ready W := by
  obtain ⟨m, hm⟩ := Go.Proofs.cell_of_shapedOpen_int (g := 3) (zero := #[.int .i64 0]) (t := 3) hs (of_decide_eq_true (by kernel_rfl)) (by kernel_rfl) rfl (by kernel_rfl) (by kernel_rfl) Tryz.underlying3
  exact ⟨kept_of h, ⟨boxLt4 hm, m, hm⟩, fine_of h, laid5_err h⟩
noncomputable def laidWorld1 (os : Os) : World :=
  let w0 := World.holding Tryz.prog os ⟨#[], #[], []⟩
  { w0 with heap := w0.heap.modify 2 fun
      | .cells _ t frozen => .cells #[.iface 160 (.agg #[.pointer (some ⟨6, 33, none⟩)])] t frozen
      | o => o }
noncomputable def laidWorld5 (os : Os) : World := (laidWorld1 os).layVars Tryz.prog laid4
theorem laid5_plain : (laid5.filter fun x => x.2.handleName?.isNone) = laid4 := by kernel_rfl
set_option maxRecDepth 100000 in
theorem laidWorld5_met (os : Os) (args : Array Value) : laidMetH Tryz.prog laid5 ((laidWorld5 os).forCall (fun _ _ => 0) ⟨#[], args, []⟩).memory := by
  refine laidMetH_of_parts ?_ (by kernel_rfl)
  rw [laid5_plain]
  have e1 : (laid4.filter fun x => (laid4.map (·.1)).contains x.1) = laid4 := List.filter_eq_self.2 fun x hx => List.contains_iff_mem.2 (List.mem_map.2 ⟨x, hx, rfl⟩)
  have e2 : (laid4.filter fun x => !(laid4.map (·.1)).contains x.1) = [] := List.filter_eq_nil_iff.2 fun x hx => by rw [List.contains_iff_mem.2 (List.mem_map.2 ⟨x, hx, rfl⟩)]; simp
  have h : laidMet Tryz.prog laid4 (laidWorld5 os) := laidMet_layVars (w0 := laidWorld1 os) (laid4.map (·.1)) [] (by rw [e1]; rfl) (by rw [e1]; kernel_rfl) (by rw [e1]; kernel_rfl) (by rw [e2]; exact LaidIn.none)
  exact h.of_heap (by simp [World.memory, World.forCall, Input.heap])
/-- The wrap: the row's condition and the world's shape both at hand. -/
theorem handed_both {H : Type} {enc : TypeId × Value → H} {a : Assume} {C : Checked} {os : Os} {f : FuncId} {fn : Func} {s : ChangeSpec} {conds : List PathCond} {apart fresh handsOn again : Bool} {X : World → Prop}
    (hX : ∀ (w w' : World), w.heap = w'.heap → X w → X w')
    (own : ownKnob C.prog.godebug = none) (started : os.Started) (noInit : C.prog.inits.idxOf? f = none) (hfn : C.prog.funcs[f]? = some fn)
    (witness : ∃ (w : World) (tape : Tape) (i : Input), w.os = os ∧ (w.forCall tape i).Shaped C.prog ∧ i.vars = [] ∧ Input.okWide C.prog (w.forCall tape i) .any w.heap.size f i ∧
      ((s.pre enc C.prog fn conds apart (w.forCall tape i).memory i.args ∧ X (w.forCall tape i).memory) ∧ sizedMet enc C.prog fn (OpenSpec.ofChange s) apart (w.forCall tape i).memory i.args) ∧ a.holds C.prog (lone (Frame.enter C.prog f i.args .normal) [] (w.forCall tape i)))
    (contract : ∀ (W : World) (args : Array Value) (ds gs : List (DataW H)) (before : List MemPlace) (base : Nat),
      (∀ (j : Nat) t v, fn.params[j]? = some t → args[j]? = some v → Value.okWide C.prog W .any base t v) →
      DataW.Whole enc C.prog fn.params.toList s.vars apart W args.toList ds gs before → X W → W.ShapedOpen C.prog →
      Calls C.prog f args W fun e W' => ∃ v, e = .returned v ∧ s.post enc C.prog fn apart fresh handsOn again W args v W') :
    ReturnsInHanded a C os f .any (fun w args => (s.pre enc C.prog fn conds apart w args ∧ X w) ∧ sizedMet enc C.prog fn (OpenSpec.ofChange s) apart w args) (s.post enc C.prog fn apart fresh handsOn again) := by
  refine returnsInHanded_of_calls own started noInit witness ?_
  intro w tape i _ hsh _ hok hpre _
  obtain ⟨_, _, _, fn', hfn', _, _, _, _, hval⟩ := hok
  obtain rfl : fn' = fn := Option.some.inj (hfn'.symm.trans hfn)
  obtain ⟨⟨⟨ds, gs, before, hw, _⟩, hx⟩, _⟩ := hpre
  refine (contract (w.forCall tape i) i.args ds gs before w.heap.size hval (DataW.Whole.of_heap (w' := w.forCall tape i) (by rfl) hw) (hX _ _ (by rfl) hx) hsh).mono fun e W' ⟨v, he, hp⟩ => ?_
  subst he
  exact ChangeSpec.post_blind hp
end Go.Proofs.YtlaeflpddehipabGreatDoor

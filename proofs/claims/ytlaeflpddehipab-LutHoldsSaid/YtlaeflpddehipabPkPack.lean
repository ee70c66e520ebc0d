/- lut.Pack, at the net of five nodes that keep.packed makes. -/
import Derived.Test.YtlaeflpddehipabPkLook
import Derived.Test.YtlaeflpddehipabLnRight
import Derived.Test.YtlaeflpddehipabNetRight2
set_option linter.unusedVariables false
set_option linter.unusedSimpArgs false
set_option linter.unusedSectionVars false
namespace Go.Proofs.Ytlaeflpddehipab
open Go.RowKit Go.Maps
attribute [local go_sem ↓] Go.wp_at_zero Go.wp_at_succ

/-- The net that is packed. -/
def fiveN : Net := ⟨3, [⟨3, 0, 0, 0⟩, ⟨3, 1, 0, 0⟩, ⟨3, 2, 0, 0⟩, ⟨5, 0, 1, 0⟩, ⟨6, 3, 2, 0⟩], [4]⟩
theorem fiveN_right : fiveN.right = true := by decide
/-- Five rows of cuts, none yet. -/
def noCuts : Array Value := #[.slice none 0 0, .slice none 0 0, .slice none 0 0, .slice none 0 0, .slice none 0 0]
theorem Try.make_cuts (u : World) : (Instr.makeSlice 67 (.int .i64 5) (.int .i64 5)).run Try.prog u = .ok (.slice (some ⟨u.heap.size, 0, none⟩) 5 5) (u.alloc (.cells noCuts 81)) := by
  have hinfo : (Try.prog.info? 81).map (fun i => (i.zero, i.size, i.bytes)) = some (some (.slice none 0 0), 1, 24) := by kernel_rfl
  obtain ⟨i0, hi, hz0, hz1, hz2⟩ := info_parts hinfo
  have h := run_make (P := Try.prog) u 67 81 i0 (.slice none 0 0) Try.underlying67 hi hz0 .i64 .i64 5 5 (by omega) (Int.le_refl _) (by rw [hz2]; omega) (by omega)
  have e : madeCells (Value.slice none 0 0).cells (Int.toNat 5 * 1) = noCuts := by
    apply Array.ext'
    show (madeCells #[Value.slice none 0 0] 5).toList = _
    rw [toList_madeCells_one]
    rfl
  rw [h, hz1, e]
  rfl
/-- A packer in memory. -/
structure PkSt (W w : World) (bN bp bc bo bm nm : Nat) (cur : Array Value) (D : DataW Unit) : Prop where
  hp : w.heap[bp]? = some (.cells #[.pointer (some ⟨bN, 0, none⟩), .slice (some ⟨bc, 0, none⟩) 5 5, .pointer (some ⟨bo, 0, none⟩), .map (some bm)] 70 (0, 0))
  hc : w.heap[bc]? = some (.cells cur 81 (0, 0))
  ho : w.heap[bo]? = some (.cells #[.int .i64 3, .slice none 0 0, .slice none 0 0, .slice none 0 0] 26 (0, 0))
  hm : w.ownsMap Try.prog 3 (plainElem Try.prog 3) bm nm D
  low : Below W.heap.size W w
  gp : W.heap.size ≤ bp
  gc : W.heap.size ≤ bc
  go : W.heap.size ≤ bo
  gm : W.heap.size ≤ bm
theorem PkSt.below {W w w' : World} {bN bp bc bo bm nm : Nat} {cur : Array Value} {D : DataW Unit} (h : PkSt W w bN bp bc bo bm nm cur D) (hb : Below w.heap.size w w') : PkSt W w' bN bp bc bo bm nm cur D :=
  ⟨(hb.block bp (boxLt h.hp)).trans h.hp, (hb.block bc (boxLt h.hc)).trans h.hc, (hb.block bo (boxLt h.ho)).trans h.ho, pkMap h.hm hb, h.low.trans (hb.mono h.low.size), h.gp, h.gc, h.go, h.gm⟩
theorem PkSt.cuts {W w w' : World} {bN bp bc bo bm nm : Nat} {cur cur' : Array Value} {D : DataW Unit} (h : PkSt W w bN bp bc bo bm nm cur D) (hg : w.grownBy w' (some bc)) (hc : w'.heap[bc]? = some (.cells cur' 81 (0, 0))) : PkSt W w' bN bp bc bo bm nm cur' D := by
  refine ⟨boxGrown h.hp h.hc (by decide) hg, hc, boxGrown h.ho h.hc (by decide) hg, h.hm.kept hg (fun e => ?_), h.low.trans (belowGrown hg h.low.size h.gc), h.gp, h.gc, h.go, h.gm⟩
  have e := Option.some.inj e
  obtain ⟨es, clock, h1, _⟩ := h.hm
  rw [e, h.hc] at h1
  cases h1
theorem PkSt.map {W w w' : World} {bN bp bc bo bm nm nm' : Nat} {cur : Array Value} {D D' : DataW Unit} (h : PkSt W w bN bp bc bo bm nm cur D) (hg : w.grownBy w' (some bm)) (hm : w'.ownsMap Try.prog 3 (plainElem Try.prog 3) bm nm' D') : PkSt W w' bN bp bc bo bm nm' cur D' := by
  obtain ⟨es, clock, h1, _⟩ := h.hm
  have hne : ∀ {z T : Nat} {cs : Array Value}, w.heap[z]? = some (.cells cs T (0, 0)) → w'.heap[z]? = some (.cells cs T (0, 0)) := fun {z T cs} hz => (hg.block z (boxLt hz) (fun e => by
    have e := Option.some.inj e
    rw [e, h1] at hz
    cases hz)).trans hz
  exact ⟨hne h.hp, hne h.hc, hne h.ho, hm, h.low.trans (belowGrown hg h.low.size h.gm), h.gp, h.gc, h.go, h.gm⟩
/-- Signals of the first i nodes. -/
def dOf : Nat → DataW Unit
  | 0 => .map []
  | i + 1 => (dOf i).put (.int .i64 (i : Int)) (.lit (.int .i64 (i : Int)))
theorem four_blocks {w : World} (o1 o2 o3 o4 : Obj) : ∀ u, ((((w.alloc o1).alloc o2).alloc o3).alloc o4).drew = u → u.heap[w.heap.size]? = some o1 ∧ u.heap[w.heap.size + 1]? = some o2 ∧ u.heap[w.heap.size + 1 + 1]? = some o3 ∧ u.heap[w.heap.size + 1 + 1 + 1]? = some o4 ∧ Below w.heap.size w u := by
  rintro u rfl
  have hb : Below w.heap.size w ((((w.alloc o1).alloc o2).alloc o3).alloc o4).drew := ((((Below.refl w.heap.size w).alloc (Nat.le_refl _) _).alloc (by simp) _).alloc (by simp; omega) _).alloc (by simp only [World.size_alloc]; omega) _ |>.drew
  have e1 := alloc_at w o1
  have e2 := alloc_at (w.alloc o1) o2
  have e3 := alloc_at ((w.alloc o1).alloc o2) o3
  have e4 := alloc_at (((w.alloc o1).alloc o2).alloc o3) o4
  simp only [World.size_alloc] at e2 e3 e4
  refine ⟨?_, ?_, ?_, e4, hb⟩
  · show ((((w.alloc o1).alloc o2).alloc o3).alloc o4).heap[w.heap.size]? = _
    rw [Below.heap_alloc _ _ _ (by simp only [World.size_alloc]; omega), Below.heap_alloc _ _ _ (by simp only [World.size_alloc]; omega), Below.heap_alloc _ _ _ (by simp only [World.size_alloc]; omega)]
    exact e1
  · show ((((w.alloc o1).alloc o2).alloc o3).alloc o4).heap[w.heap.size + 1]? = _
    rw [Below.heap_alloc _ _ _ (by simp only [World.size_alloc]; omega), Below.heap_alloc _ _ _ (by simp only [World.size_alloc]; omega)]
    exact e2
  · show ((((w.alloc o1).alloc o2).alloc o3).alloc o4).heap[w.heap.size + 1 + 1]? = _
    rw [Below.heap_alloc _ _ _ (by simp only [World.size_alloc]; omega)]
    exact e3
theorem pkOne {w1 : World} {o1 o2 o3 o4 o : Obj} {b : Nat} (h : (b = w1.heap.size ∧ o1 = o) ∨ (b = w1.heap.size + 1 ∧ o2 = o) ∨ (b = w1.heap.size + 1 + 1 ∧ o3 = o)) : ((((w1.alloc o1).alloc o2).alloc o3).alloc o4).drew.heap[b]? = some o ∧ w1.heap.size ≤ b := by
  obtain ⟨f1, f2, f3, f4, fb⟩ := four_blocks (w := w1) o1 o2 o3 o4 _ rfl
  rcases h with ⟨rfl, rfl⟩ | ⟨rfl, rfl⟩ | ⟨rfl, rfl⟩
  · exact ⟨f1, Nat.le_refl _⟩
  · exact ⟨f2, by omega⟩
  · exact ⟨f3, by omega⟩
theorem pkStart {w1 : World} {bN bc bo bm : Nat} {o1 o2 o3 o4 : Obj} (h4 : o4 = .cells #[.pointer (some ⟨bN, 0, none⟩), .slice (some ⟨bc, 0, none⟩) 5 5, .pointer (some ⟨bo, 0, none⟩), .map (some bm)] 70 (0, 0))
    (hc : (bc = w1.heap.size ∧ o1 = .cells noCuts 81 (0, 0)) ∨ (bc = w1.heap.size + 1 ∧ o2 = .cells noCuts 81 (0, 0)) ∨ (bc = w1.heap.size + 1 + 1 ∧ o3 = .cells noCuts 81 (0, 0)))
    (ho : (bo = w1.heap.size ∧ o1 = .cells #[.int .i64 3, .slice none 0 0, .slice none 0 0, .slice none 0 0] 26 (0, 0)) ∨ (bo = w1.heap.size + 1 ∧ o2 = .cells #[.int .i64 3, .slice none 0 0, .slice none 0 0, .slice none 0 0] 26 (0, 0)) ∨ (bo = w1.heap.size + 1 + 1 ∧ o3 = .cells #[.int .i64 3, .slice none 0 0, .slice none 0 0, .slice none 0 0] 26 (0, 0)))
    (hm : (bm = w1.heap.size ∧ o1 = .map #[] 0) ∨ (bm = w1.heap.size + 1 ∧ o2 = .map #[] 0) ∨ (bm = w1.heap.size + 1 + 1 ∧ o3 = .map #[] 0)) :
    PkSt w1 ((((w1.alloc o1).alloc o2).alloc o3).alloc o4).drew bN (w1.heap.size + 1 + 1 + 1) bc bo bm 0 noCuts (dOf 0) := by
  obtain ⟨f1, f2, f3, f4, fb⟩ := four_blocks (w := w1) o1 o2 o3 o4 _ rfl
  obtain ⟨c1, c2⟩ := pkOne (o4 := o4) hc
  obtain ⟨n1, n2⟩ := pkOne (o4 := o4) ho
  obtain ⟨m1, m2⟩ := pkOne (o4 := o4) hm
  refine ⟨by rw [f4, h4], c1, n1, ?_, fb, by omega, c2, n2, m2⟩
  obtain ⟨es, clock, h1, F, hs, hD⟩ := World.ownsMap_made w1 Try.prog 3 (plainElem (H := Unit) Try.prog 3)
  have e := alloc_at w1 (.map #[] 0)
  rw [e] at h1
  cases h1
  exact ⟨_, _, m1, F, hs, hD⟩
theorem tA : pkBoth [((0 : Nat) : Int)] [((1 : Nat) : Int)] = ([0, 1] : List Nat).map Int.ofNat := by
  show pkBoth [0] [1] = _
  simp [pkBoth, List.mergeSort, List.MergeSort.Internal.splitInTwo, List.merge]
  rfl
theorem tB : pkBoth [((3 : Nat) : Int)] [((2 : Nat) : Int)] = ([2, 3] : List Nat).map Int.ofNat := by
  show pkBoth [3] [2] = _
  simp [pkBoth, List.mergeSort, List.MergeSort.Internal.splitInTwo, List.merge]
  rfl
theorem tC : pkBoth (([0, 1] : List Nat).map Int.ofNat) [((2 : Nat) : Int)] = ([0, 1, 2] : List Nat).map Int.ofNat := by
  show pkBoth [0, 1] [2] = _
  simp [pkBoth, List.mergeSort, List.MergeSort.Internal.splitInTwo, List.merge]
  rfl
/-- The five nodes, wherever. -/
theorem five_cells {B : Nat} {W wr : World} {bN bl bs : Nat} (hn : NetIn B W bN (some ⟨bl, 0, none⟩) 5 (some ⟨bs, 0, none⟩) 1 fiveN) (hB : B ≤ W.heap.size) (hb : Below W.heap.size W wr) :
    (∀ i, i < 3 → PkNode wr bl i 3 (i : Int) 0 0) ∧ PkNode wr bl 3 5 ((0 : Nat) : Int) ((1 : Nat) : Int) 0 ∧ PkNode wr bl 4 6 ((3 : Nat) : Int) ((2 : Nat) : Int) 0 ∧ wr.cell? ⟨bN, 1, none⟩ = some (.slice (some ⟨bl, 0, none⟩) 5 5) ∧ wr.cell? ⟨bN, 2, none⟩ = some (.slice (some ⟨bs, 0, none⟩) 1 1) ∧ wr.cell? ⟨bs, 0, none⟩ = some (.int .i64 4) ∧ bN < W.heap.size ∧ bl < W.heap.size ∧ bs < W.heap.size := by
  have h := hn.stay (hb.mono hB)
  obtain ⟨b1, o1, e1, hl1, hc1⟩ := h.rn.at (by decide)
  cases e1
  obtain ⟨b2, o2, e2, hl2, hc2⟩ := h.ro.at (by decide)
  cases e2
  have hc : ∀ j, j < 20 → wr.cell? ⟨bl, j, none⟩ = some (nodeCell fiveN.nodes j) := fun j hj => by
    have := hc1 j hj
    rw [Nat.zero_add] at this
    exact this
  have hcs : wr.cell? ⟨bs, 0, none⟩ = some (.int .i64 4) := hc2 0 (by decide)
  refine ⟨fun i hi => ?_, ⟨hc 12 (by decide), hc 13 (by decide), hc 14 (by decide), hc 15 (by decide)⟩, ⟨hc 16 (by decide), hc 17 (by decide), hc 18 (by decide), hc 19 (by decide)⟩, h.nodes, h.outs, hcs, Nat.lt_of_lt_of_le hn.hb hB, Nat.lt_of_lt_of_le hl1 hB, Nat.lt_of_lt_of_le hl2 hB⟩
  rcases i with _ | _ | _ | i
  · exact ⟨hc 0 (by decide), hc 1 (by decide), hc 2 (by decide), hc 3 (by decide)⟩
  · exact ⟨hc 4 (by decide), hc 5 (by decide), hc 6 (by decide), hc 7 (by decide)⟩
  · exact ⟨hc 8 (by decide), hc 9 (by decide), hc 10 (by decide), hc 11 (by decide)⟩
  · omega
theorem d3ok {i : Nat} (he : i = 3) : ∀ o, o < 2 → ([0, 1] : List Nat).getD o 0 < 5 ∧ ([0, 1] : List Nat).getD o 0 ≠ i ∧ noCuts[([0, 1] : List Nat).getD o 0]? = some (.slice none 0 0) := by
  subst he
  intro o ho
  match o, ho with
  | 0, _ => exact ⟨by decide, by decide, rfl⟩
  | 1, _ => exact ⟨by decide, by decide, rfl⟩
theorem d4a {i : Nat} {v : Value} (he : i = 4) : ∀ o, o < 2 → ([2, 3] : List Nat).getD o 0 < 5 ∧ ([2, 3] : List Nat).getD o 0 ≠ i ∧ (((noCuts.setIfInBounds 3 v)[([2, 3] : List Nat).getD o 0]? = some (.slice none 0 0) ∧ ([0, 1] : List Nat).getD o 0 = 0) ∨ ((noCuts.setIfInBounds 3 v)[([2, 3] : List Nat).getD o 0]? = some v ∧ ([0, 1] : List Nat).getD o 0 = 1)) := by
  subst he
  intro o ho
  match o, ho with
  | 0, _ => exact ⟨by decide, by decide, .inl ⟨rfl, rfl⟩⟩
  | 1, _ => exact ⟨by decide, by decide, .inr ⟨rfl, rfl⟩⟩
theorem d4l : ∀ o, ([0, 1] : List Nat).getD o 0 ≤ 1000 := by
  intro o
  match o with
  | 0 => decide
  | 1 => decide
  | o + 2 => exact Nat.zero_le _
theorem d4b {i : Nat} {v : Value} (he : i = 4) : ∀ o, o < 3 → ([0, 1, 2] : List Nat).getD o 0 < 5 ∧ ([0, 1, 2] : List Nat).getD o 0 ≠ i ∧ (noCuts.setIfInBounds 3 v)[([0, 1, 2] : List Nat).getD o 0]? = some (.slice none 0 0) := by
  subst he
  intro o ho
  match o, ho with
  | 0, _ => exact ⟨by decide, by decide, rfl⟩
  | 1, _ => exact ⟨by decide, by decide, rfl⟩
  | 2, _ => exact ⟨by decide, by decide, rfl⟩
theorem cu3 {i : Nat} (he : i = 3) : noCuts[i]? = some (.slice none 0 0) := by subst he; rfl
theorem cu1 : noCuts[1]? = some (.slice none 0 0) := rfl
theorem cu0 : noCuts[0]? = some (.slice none 0 0) := rfl
theorem cw4 {i : Nat} {v : Value} (he : i = 4) : (noCuts.setIfInBounds 3 v)[i]? = some (.slice none 0 0) := by subst he; rfl
theorem cw2 {v : Value} : (noCuts.setIfInBounds 3 v)[2]? = some (.slice none 0 0) := rfl
theorem cw3 {v : Value} : (noCuts.setIfInBounds 3 v)[3]? = some v := rfl
/-- How far the first loop is. -/
def Stage (w1 : World) (bN bp bc bo bm i : Nat) (wr : World) : Prop :=
  (i ≤ 3 ∧ PkSt w1 wr bN bp bc bo bm i noCuts (dOf i)) ∨
  (i = 4 ∧ ∃ g3 c3 gl3 cl3, PkSt w1 wr bN bp bc bo bm 3 (noCuts.setIfInBounds 3 (.slice (some ⟨g3, 0, none⟩) 1 c3)) (dOf 3) ∧ wr.cell? ⟨g3, 0, none⟩ = some (.slice (some ⟨gl3, 0, none⟩) 2 cl3) ∧ wr.cell? ⟨g3, 1, none⟩ = some (.int .i64 1) ∧ LeafB wr gl3 [0, 1] ∧ g3 < wr.heap.size ∧ g3 ≠ bc) ∨
  (i = 5 ∧ ∃ cur g4 c4 gl4 cl4, PkSt w1 wr bN bp bc bo bm 3 cur (dOf 3) ∧ cur[4]? = some (.slice (some ⟨g4, 0, none⟩) 2 c4) ∧ wr.cell? ⟨g4, 0, none⟩ = some (.slice (some ⟨gl4, 0, none⟩) 3 cl4) ∧ LeafB wr gl4 [0, 1, 2] ∧ g4 < wr.heap.size)
theorem Stage.zero {w1 w2 : World} {bN bp bc bo bm : Nat} (h : PkSt w1 w2 bN bp bc bo bm 0 noCuts (dOf 0)) : Stage w1 bN bp bc bo bm 0 w2 := .inl ⟨Nat.zero_le _, h⟩
/-- The signal of the last node. -/
theorem PkSig5 {w1 wo : World} {bN bp bl bc bo bm g4 c4 gl4 cl4 : Nat} {cur : Array Value} (hst : PkSt w1 wo bN bp bc bo bm 3 cur (dOf 3)) (hc4 : cur[4]? = some (.slice (some ⟨g4, 0, none⟩) 2 c4)) (u0 : wo.cell? ⟨g4, 0, none⟩ = some (.slice (some ⟨gl4, 0, none⟩) 3 cl4)) (hL : LeafB wo gl4 [0, 1, 2]) (hg4 : g4 < wo.heap.size) (hM : PkM wo bp bN bl 5 5) (n3 : PkNode wo bl 3 5 ((0 : Nat) : Int) ((1 : Nat) : Int) 0) (n4 : PkNode wo bl 4 6 ((3 : Nat) : Int) ((2 : Nat) : Int) 0) :
    Calls Try.prog 25 #[.pointer (some ⟨bp, 0, none⟩), .int .i64 4] wo.drew fun e w' => ∃ gl cl gi ci T, T = pkTab (fun b => bitB b 2 || (bitB b 1 && bitB b 0)) 8 ∧ e = .returned (.int .i64 3) ∧ w'.heap[bo]? = some (.cells #[.int .i64 3, .slice none 0 0, .slice (some ⟨gl, 0, none⟩) 1 cl, .slice none 0 0] 26 (0, 0)) ∧
        w'.cell? ⟨gl, 0, none⟩ = some (.slice (some ⟨gi, 0, none⟩) 3 ci) ∧ w'.cell? ⟨gl, 1, none⟩ = some (.int .i64 (T : Nat)) ∧ (∀ o, o < 3 → w'.cell? ⟨gi, o, none⟩ = some (.int .i64 (([0, 1, 2] : List Int).getD o 0))) ∧
        wo.heap.size ≤ gl ∧ gl < w'.heap.size ∧ wo.heap.size ≤ gi ∧ gi < w'.heap.size ∧ But2 wo w' bm bo := by
  have hd : ∀ o, o < 3 → ([0, 1, 2] : List Nat).getD o 0 ≤ 1000000 ∧ Maps.has (dOf 3) (.int .i64 ((([0, 1, 2] : List Nat).getD o 0 : Nat) : Int)) = true ∧ (dOf 3).atKey (.int .i64 ((([0, 1, 2] : List Nat).getD o 0 : Nat) : Int)) (.lit (.int .i64 0)) = .lit (.int .i64 (([0, 1, 2] : List Int).getD o 0)) := by
    intro o ho
    match o, ho with
    | 0, _ => exact ⟨by decide, rfl, rfl⟩
    | 1, _ => exact ⟨by decide, rfl, rfl⟩
    | 2, _ => exact ⟨by decide, rfl, rfl⟩
  have hb : Below wo.heap.size wo wo.drew := (Below.refl _ _).drew
  refine (PkSigNew bp bN bl 5 5 bc 5 bo bm g4 gl4 wo.drew 3 2 c4 cl4 0 1 2 [0, 1, 2] [0, 1, 2] (dOf 3) 4 3 ((0 : Nat) : Int) ((1 : Nat) : Int) 0 ((2 : Nat) : Int) 0 (hM.stay hb) (n4.stay hM.l2 hb) (n3.stay hM.l2 hb) (by decide) (by decide) (by decide)
    ((cell_block hst.hp 1).trans rfl) ((cell_block hst.hp 2).trans rfl) ((cell_block hst.hp 3).trans rfl) ((cell_block hst.hc 4).trans hc4) (by decide) u0 rfl rfl hL.2 (boxLt hst.hc) hg4 hL.lt hst.ho (pkMap hst.hm hb) (by decide) rfl hd (by decide) (by decide) (by decide) (by decide) (by decide) (by decide) (by decide) (by decide) rfl).mono ?_
  rintro e w' ⟨gl, cl, gi, ci, rfl, h1, h2, h3, h4, h5, h6, h7, h8, h9⟩
  exact ⟨gl, cl, gi, ci, _, rfl, rfl, h1, h2, h3, h4, h5, h6, h7, h8, ⟨h9.os, h9.tape, h9.output, h9.size, h9.block⟩⟩
theorem but2Low {B : Nat} {W w w' : World} {x y : Nat} (h : Below B W w) (hb : But2 w w' x y) (hB : B ≤ w.heap.size) (hx : B ≤ x) (hy : B ≤ y) : Below B W w' :=
  ⟨hb.os.trans h.os, hb.tape.trans h.tape, hb.output.trans h.output, Nat.le_trans h.size hb.size, fun k hk => (hb.block k (by omega) (by omega) (by omega)).trans (h.block k hk)⟩
/-- The net that comes out. -/
def PkFin (w1 : World) (bp bo : Nat) (wr : World) : Prop := ∃ gl cl gi ci ga ca T, T = pkTab (fun b => bitB b 2 || (bitB b 1 && bitB b 0)) 8 ∧ wr.heap[bo]? = some (.cells #[.int .i64 3, .slice none 0 0, .slice (some ⟨gl, 0, none⟩) 1 cl, .slice (some ⟨ga, 0, none⟩) 1 ca] 26 (0, 0)) ∧
  wr.cell? ⟨gl, 0, none⟩ = some (.slice (some ⟨gi, 0, none⟩) 3 ci) ∧ wr.cell? ⟨gl, 1, none⟩ = some (.int .i64 (T : Nat)) ∧ (∀ o, o < 3 → wr.cell? ⟨gi, o, none⟩ = some (.int .i64 (([0, 1, 2] : List Int).getD o 0))) ∧ wr.cell? ⟨ga, 0, none⟩ = some (.int .i64 3) ∧
  gl < wr.heap.size ∧ gi < wr.heap.size ∧ ga < wr.heap.size ∧ Below w1.heap.size w1 wr ∧ wr.cell? ⟨bp, 2, none⟩ = some (.pointer (some ⟨bo, 0, none⟩))
theorem pkFin {w1 wo w5 wb : World} {bN bp bc bo bm gl cl gi ci T cv : Nat} {cur : Array Value} {D : DataW Unit} {av : Option Addr} (hst : PkSt w1 wo bN bp bc bo bm 3 cur D) (hT : T = pkTab (fun b => bitB b 2 || (bitB b 1 && bitB b 0)) 8) (h1 : w5.heap[bo]? = some (.cells #[.int .i64 3, .slice none 0 0, .slice (some ⟨gl, 0, none⟩) 1 cl, .slice none 0 0] 26 (0, 0)))
    (h2 : w5.cell? ⟨gl, 0, none⟩ = some (.slice (some ⟨gi, 0, none⟩) 3 ci)) (h3 : w5.cell? ⟨gl, 1, none⟩ = some (.int .i64 (T : Nat))) (h4 : ∀ o, o < 3 → w5.cell? ⟨gi, o, none⟩ = some (.int .i64 (([0, 1, 2] : List Int).getD o 0))) (h5 : wo.heap.size ≤ gl) (h6 : gl < w5.heap.size) (h7 : wo.heap.size ≤ gi) (h8 : gi < w5.heap.size) (h9 : But2 wo w5 bm bo)
    (hb : Below w5.heap.size w5 wb) (hr : wb.ownsRow w5.heap.size 3 1 (.slice av (0 + 1) cv) (0 + 1) ([] ++ [.int .i64 3])) : PkFin w1 bp bo (wb.setCell ⟨bo, 3, none⟩ (.slice av (0 + 1) cv)) := by
  have hlow := but2Low hst.low h9 hst.low.size hst.gm hst.go
  have hbol := boxLt h1
  have hbo0 := boxLt hst.ho
  have hne : ∀ z j, z ≠ bo → (wb.setCell ⟨bo, 3, none⟩ (.slice av (0 + 1) cv)).cell? ⟨z, j, none⟩ = wb.cell? ⟨z, j, none⟩ := fun z j hz => pkFar hz
  have hpo : bp ≠ bo := fun e => by
    have h := hst.hp
    rw [e, hst.ho] at h
    cases h
  have hpm : bp ≠ bm := fun e => by
    obtain ⟨es, clock, hx, _⟩ := hst.hm
    have h := hst.hp
    rw [e, hx] at h
    cases h
  have hbp0 := boxLt hst.hp
  have hp5 : w5.cell? ⟨bp, 2, none⟩ = some (.pointer (some ⟨bo, 0, none⟩)) := h9.cell ((cell_block hst.hp 2).trans rfl) hbp0 hpm hpo
  have hs9 := h9.size
  obtain ⟨ga, ca, e, hga0, hga, hgc⟩ : ∃ ga ca, Value.slice av (0 + 1) cv = .slice (some ⟨ga, 0, none⟩) 1 ca ∧ w5.heap.size ≤ ga ∧ ga < wb.heap.size ∧ wb.cell? ⟨ga, 0, none⟩ = some (.int .i64 3) := by
    rcases hr.2 with ⟨_, h0⟩ | ⟨g, cap, cur2, e, hgb, hgh, _, _, _, htk⟩
    · cases h0
    · refine ⟨g, cap, e, hgb, boxLt hgh, ?_⟩
      rw [cell_block hgh 0]
      have hx : (cur2.toList.take ((0 + 1) * 1))[0]? = some (.int .i64 3) := by rw [htk]; rfl
      rw [List.getElem?_take] at hx
      split at hx
      · rw [Array.getElem?_toList] at hx; exact hx
      · cases hx
  rw [e] at hne ⊢
  have hsz : (wb.setCell ⟨bo, 3, none⟩ (.slice (some ⟨ga, 0, none⟩) 1 ca)).heap.size = wb.heap.size := by simp [World.setCell]
  have hs := hb.size
  refine ⟨gl, cl, gi, ci, ga, ca, T, hT, (boxSet ((hb.block bo hbol).trans h1) 3 _).trans (by simp), ?_, ?_, fun o ho => ?_, ?_, by omega, by omega, by omega, ((hlow.trans (hb.mono hlow.size)).setCell hst.go _), ?_⟩
  · rw [hne gl 0 (by omega)]; exact (hb.cell (p := ⟨gl, 0, none⟩) h6).trans h2
  · rw [hne gl 1 (by omega)]; exact (hb.cell (p := ⟨gl, 1, none⟩) h6).trans h3
  · rw [hne gi o (by omega)]; exact (hb.cell (p := ⟨gi, o, none⟩) h8).trans (h4 o ho)
  · rw [hne ga 0 (by omega)]; exact hgc
  · rw [hne bp 2 hpo]; exact (hb.cell (p := ⟨bp, 2, none⟩) (Nat.lt_of_lt_of_le hbp0 hs9)).trans hp5
/-- As the laws of nets of tables want it. -/
theorem PkFin.net {w1 wr : World} {bp bo : Nat} (h : PkFin w1 bp bo wr) : ∃ y T, T = pkTab (fun b => bitB b 2 || (bitB b 1 && bitB b 0)) 8 ∧ LnIn wr.heap.size wr bo y ⟨3, [], [⟨[0, 1, 2], (T : Int)⟩], [3]⟩ := by
  obtain ⟨gl, cl, gi, ci, ga, ca, T, hT, h1, h2, h3, h4, h5, h6, h7, h8, h9, h10⟩ := h
  refine ⟨⟨none, 0, some ⟨gl, 0, none⟩, cl, some ⟨ga, 0, none⟩, ca, fun _ => some ⟨gi, 0, none⟩, fun _ => ci⟩, T, hT, (cell_block h1 0).trans rfl, (cell_block h1 1).trans rfl, (cell_block h1 2).trans rfl, (cell_block h1 3).trans rfl, ⟨.inl rfl, .inr ⟨gl, 0, rfl, h6, fun j hj => ?_⟩, fun i hi => ?_, .inr ⟨ga, 0, rfl, h8, fun j hj => ?_⟩, Nat.zero_le _, (show 1 ≤ maxLen by unfold maxLen; decide), fun i => ?_, (show 1 ≤ maxLen by unfold maxLen; decide)⟩, boxLt h1⟩
  · have hj2 : j < 2 := hj
    match j, hj2 with
    | 0, _ => exact h2
    | 1, _ => exact h3
  · have hi1 : i < 1 := hi
    match i, hi1 with
    | 0, _ =>
      refine .inr ⟨gi, 0, rfl, h7, fun j hj => ?_⟩
      rw [Nat.zero_add]
      exact h4 j hj
  · have hj1 : j < 1 := hj
    match j, hj1 with
    | 0, _ => exact h5
  · match i with
    | 0 => show 3 ≤ maxLen; unfold maxLen; decide
    | i + 1 => exact Nat.zero_le _
theorem PkSt.m {w1 wr : World} {bN bp bc bo bm nm bl : Nat} {cur : Array Value} {D : DataW Unit} (h : PkSt w1 wr bN bp bc bo bm nm cur D) (hN : wr.cell? ⟨bN, 1, none⟩ = some (.slice (some ⟨bl, 0, none⟩) 5 5)) (h1 : bN < wr.heap.size) (h2 : bl < wr.heap.size) : PkM wr bp bN bl 5 5 :=
  ⟨(cell_block h.hp 0).trans rfl, hN, boxLt h.hp, h1, h2⟩
set_option maxRecDepth 100000 in
set_option maxHeartbeats 25600000 in
theorem PkPack5 (B : Nat) (W : World) (bN bl bs : Nat) (hn : NetIn B W bN (some ⟨bl, 0, none⟩) 5 (some ⟨bs, 0, none⟩) 1 fiveN) (hB : B ≤ W.heap.size) :
    Calls Try.prog 14 #[.pointer (some ⟨bN, 0, none⟩)] W fun e w' => ∃ bo y T, e = .returned (.tuple #[.pointer (some ⟨bo, 0, none⟩), .nilIface]) ∧ T = pkTab (fun b => bitB b 2 || (bitB b 1 && bitB b 0)) 8 ∧ LnIn w'.heap.size w' bo y ⟨3, [], [⟨[0, 1, 2], (T : Int)⟩], [3]⟩ ∧ Below W.heap.size W w' := by
  have HR := hid (Right_any B bN (some ⟨bl, 0, none⟩) 5 (some ⟨bs, 0, none⟩) 1 fiveN W hn hB)
  have HN := hid hn
  have hmm := @run_makeMap Try.prog
  have hmk := @Try.make_cuts
  clear hn
  go_enter Try.func14, Try.ntmps14
  go_upto_region 3 with (go_at_call 23; (with_reducible refine HR.out.mono ?_); rintro e w1 ⟨rfl, hb1⟩; rw [fiveN_right]; have HB1 := hid hb1; clear hb1)
  have h1 := HN.out.stay (HB1.out.mono hB)
  have z0 : w1.cell? ⟨bN, 0, none⟩ = some (.int .i64 3) := h1.g
  have z1 : w1.cell? ⟨bN, 1, none⟩ = some (.slice (some ⟨bl, 0, none⟩) 5 5) := h1.nodes
  have hbNl : bN < w1.heap.size := Nat.lt_of_lt_of_le HN.out.hb (Nat.le_trans hB HB1.out.size)
  clear h1
  go_cut [4] (fun s4 wx => ∃ bp bc bo bm, s4 = .pointer (some ⟨bp, 0, none⟩) ∧ PkSt w1 wx bN bp bc bo bm 0 noCuts (dOf 0))
  case first =>
    go_region
    all_goals (go_wp2_with fail; go_meet; exact ⟨_, _, _, _, rfl, pkStart rfl (by first | exact .inl ⟨rfl, rfl⟩ | exact .inr (.inl ⟨rfl, rfl⟩) | exact .inr (.inr ⟨rfl, rfl⟩)) (by first | exact .inl ⟨rfl, rfl⟩ | exact .inr (.inl ⟨rfl, rfl⟩) | exact .inr (.inr ⟨rfl, rfl⟩)) (by first | exact .inl ⟨rfl, rfl⟩ | exact .inr (.inl ⟨rfl, rfl⟩) | exact .inr (.inr ⟨rfl, rfl⟩))⟩)
  case rest =>
  obtain ⟨bp, bc, bo, bm, rfl, hst⟩ := hcut
  obtain ⟨w2, rfl⟩ : ∃ wo : World, wo = wc := ⟨_, rfl⟩
  have HST := hid hst
  have z1 := (hst.low.cell (p := ⟨bN, 1, none⟩) hbNl).trans z1
  clear hst z0
  go_wp2_with fail
  clear z1
  go_loopw [5, 39] (fun v5 v wr => v5 = .slice none 0 0 ∧ ∃ i : Nat, v = .int .i64 (i : Int) ∧ i ≤ 5 ∧ Stage w1 bN bp bc bo bm i wr) (fun _ v _ => 5 - (intOf v).toNat)
  case atStart => exact ⟨rfl, 0, rfl, Nat.zero_le _, Stage.zero HST.out⟩
  case round =>
    obtain ⟨rfl, i, rfl, hi5, hstage⟩ := hrel
    clear HST
    by_cases hlt : i < 5
    · have hiI : (i : Int) < 5 := by omega
      have hi0 : (0 : Int) ≤ (i : Int) := by omega
      rcases hstage with ⟨hi3, hst⟩ | ⟨hi4, g3, c3, gl3, cl3, hst, u0, u1, hL3, hg3l, hg3c⟩ | ⟨hi9, _⟩
      · have hbW := HB1.out.trans (hst.low.mono HB1.out.size)
        obtain ⟨n0, n3, n4, nN, nO, nS, lN, ll, ls⟩ := five_cells HN.out hB hbW
        have lNr : bN < wr.heap.size := Nat.lt_of_lt_of_le lN hbW.size
        have llr : bl < wr.heap.size := Nat.lt_of_lt_of_le ll hbW.size
        have hM := hst.m nN lNr llr
        by_cases h3 : i < 3
        · obtain ⟨d0, d1, d2, d3⟩ := n0 i h3
          have p3 : wr.cell? ⟨bp, 3, none⟩ = some (.map (some bm)) := (cell_block hst.hp 3).trans rfl
          have hbpl := boxLt hst.hp
          have HW := hid (show ∀ wa, wr.alloc (.cells #[.int .i64 3, .int .i64 (i : Int), .int .i64 0, .int .i64 0] 48) = wa → Below wr.heap.size wr wa ∧ wa.cell? ⟨wr.heap.size, 0, none⟩ = some (.int .i64 3) ∧ wa.cell? ⟨wr.heap.size, 1, none⟩ = some (.int .i64 (i : Int)) from by
            rintro wa rfl
            exact ⟨(Below.refl _ _).alloc (Nat.le_refl _) _, (cell_new _ _ _ _).trans rfl, (cell_new _ _ _ _).trans rfl⟩)
          have HST := hid hst
          clear hst n0 n3 n4 nO nS hM
          go_upto_region 8 with fail
          obtain ⟨wa, hwa⟩ : ∃ wa, wr.alloc (.cells #[.int .i64 3, .int .i64 (i : Int), .int .i64 0, .int .i64 0] 48) = wa := ⟨_, rfl⟩
          obtain ⟨hba, e0, e1⟩ := HW.out wa hwa
          rw [hwa]
          have q3 := (hba.cell (p := ⟨bp, 3, none⟩) hbpl).trans p3
          have HSA := hid ((HST.out.below hba).below (Below.refl _ _).drew)
          have hwf : (Lit.int .i64 (i : Int)).wf = true := pkWf ⟨by omega, by omega⟩
          obtain ⟨w9, hrun, hown9, hturn⟩ := HSA.out.hm.store (val := .int .i64 (i : Int)) (d := .lit (.int .i64 (i : Int))) (ps := []) Try.pkKey Try.underlying68 (by unfold maxLen; omega) (keyOf_int_mk Try.underlying3 hwf) (plainElem_int Try.underlying3 hwf)
          have HS9 := hid (HSA.out.map hturn.grown hown9)
          clear hwa hba HW d0 d1 d2 d3 nN p3 hown9 hturn
          go_upto_region 9 with fail
          refine wpEnds.begin (fun w' => w'.cell? ⟨bp, 3, none⟩ = some (.map (some bm)) ∧ w'.cell? ⟨wr.heap.size, 1, none⟩ = some (.int .i64 (i : Int))) 7 (by kernel_rfl) ⟨q3, e1⟩ (fun hHeld => ?_)
          refine wpEnds.take 0 8 (v := ?vam0) rfl (by kernel_rfl) (by kernel_rfl) (by kernel_rfl) (by kernel_rfl) (by kernel_rfl) (fun _ _ _ h => h) (by kernel_rfl) hHeld (fun w' hSw => ?hyam0) ?restam0
          case hyam0 => ((try dsimp only at hSw); go_simp; try with_reducible rfl)
          case restam0 =>
          (try simp only [Act.put, List.setIfInBounds_toArray, List.set_cons_zero, List.set_cons_succ])
          refine wpEnds.take 1 8 (v := ?vam1) rfl (by kernel_rfl) (by kernel_rfl) (by kernel_rfl) (by kernel_rfl) (by kernel_rfl) (fun _ _ _ h => h) (by kernel_rfl) hHeld (fun w' hSw => ?hyam1) ?restam1
          case hyam1 => ((try dsimp only at hSw); go_simp; try with_reducible rfl)
          case restam1 =>
          (try simp only [Act.put, List.setIfInBounds_toArray, List.set_cons_zero, List.set_cons_succ])
          refine wpEnds.take 2 8 (v := ?vam2) rfl (by kernel_rfl) (by kernel_rfl) (by kernel_rfl) (by kernel_rfl) (by kernel_rfl) (fun _ _ _ h => h) (by kernel_rfl) hHeld (fun w' hSw => ?hyam2) ?restam2
          case hyam2 => ((try dsimp only at hSw); go_simp; try with_reducible rfl)
          case restam2 =>
          (try simp only [Act.put, List.setIfInBounds_toArray, List.set_cons_zero, List.set_cons_succ])
          refine wpEnds.take 3 8 (v := ?vam3) rfl (by kernel_rfl) (by kernel_rfl) (by kernel_rfl) (by kernel_rfl) (by kernel_rfl) (fun _ _ _ h => h) (by kernel_rfl) hHeld (fun w' hSw => ?hyam3) ?restam3
          case hyam3 => ((try dsimp only at hSw); go_simp; try with_reducible rfl)
          case restam3 =>
          (try simp only [Act.put, List.setIfInBounds_toArray, List.set_cons_zero, List.set_cons_succ])
          refine wpEnds.take 4 8 (v := ?vam4) rfl (by kernel_rfl) (by kernel_rfl) (by kernel_rfl) (by kernel_rfl) (by kernel_rfl) (fun _ _ _ h => h) (by kernel_rfl) hHeld (fun w' hSw => ?hyam4) ?restam4
          case hyam4 => ((try dsimp only at hSw); go_simp; try with_reducible rfl)
          case restam4 =>
          (try simp only [Act.put, List.setIfInBounds_toArray, List.set_cons_zero, List.set_cons_succ])
          refine wpEnds.take 5 8 (v := ?vam5) rfl (by kernel_rfl) (by kernel_rfl) (by kernel_rfl) (by kernel_rfl) (by kernel_rfl) (fun _ _ _ h => h) (by kernel_rfl) hHeld (fun w' hSw => ?hyam5) ?restam5
          case hyam5 => ((try dsimp only at hSw); go_simp; try with_reducible rfl)
          case restam5 =>
          (try simp only [Act.put, List.setIfInBounds_toArray, List.set_cons_zero, List.set_cons_succ])
          refine wpEnds.take 6 8 (v := ?vam6) rfl (by kernel_rfl) (by kernel_rfl) (by kernel_rfl) (by kernel_rfl) (by kernel_rfl) (fun _ _ _ h => h) (by kernel_rfl) hHeld (fun w' hSw => ?hyam6) ?restam6
          case hyam6 => ((try dsimp only at hSw); go_simp; try with_reducible rfl)
          case restam6 =>
          (try simp only [Act.put, List.setIfInBounds_toArray, List.set_cons_zero, List.set_cons_succ])
          refine wpEnds.last 7 (by kernel_rfl) (by kernel_rfl) rfl (fun K hK => ?_)
          go_simp
          refine hK.out _ _ ?_
          clear hK K
          (try simp only [Act.put, List.setIfInBounds_toArray, List.set_cons_zero, List.set_cons_succ])
          go_wp2_with fail
          go_roundw
          case rel => exact ⟨rfl, i + 1, by go_num, by omega, .inl ⟨by omega, HS9.out⟩⟩
          case measure => simp [intOf]; omega
        · have he : i = 3 := by omega
          have hst' := hst
          rw [he] at hst'
          have n3' : PkNode wr bl i 5 ((0 : Nat) : Int) ((1 : Nat) : Int) 0 := by rw [he]; exact n3
          have d0 : wr.cell? ⟨bl, i * 4, none⟩ = some (.int .i64 5) := n3'.d0
          have d1 : wr.cell? ⟨bl, i * 4 + 1, none⟩ = some (.int .i64 0) := n3'.d1
          have d2 : wr.cell? ⟨bl, i * 4 + 2, none⟩ = some (.int .i64 1) := n3'.d2
          have d3 : wr.cell? ⟨bl, i * 4 + 3, none⟩ = some (.int .i64 0) := n3'.d3
          have HW := hid (show ∀ wa, wr.alloc (.cells #[.int .i64 5, .int .i64 0, .int .i64 1, .int .i64 0] 48) = wa → Below wr.heap.size wr wa ∧ wa.cell? ⟨wr.heap.size, 0, none⟩ = some (.int .i64 5) from by
            rintro wa rfl
            exact ⟨(Below.refl _ _).alloc (Nat.le_refl _) _, (cell_new _ _ _ _).trans rfl⟩)
          have HST := hid hst'
          have HN3 := hid n3'
          have HN0 := hid (n0 0 (by omega))
          have HN1 := hid (n0 1 (by omega))
          have HM := hid hM
          have HE := hid he
          clear hst hst' n0 n3 n3' n4 nO nS hM he hi3 h3
          go_upto_region 8 with fail
          obtain ⟨wa, hwa⟩ : ∃ wa, wr.alloc (.cells #[.int .i64 5, .int .i64 0, .int .i64 1, .int .i64 0] 48) = wa := ⟨_, rfl⟩
          obtain ⟨hba, e0⟩ := HW.out wa hwa
          rw [hwa]
          have HBA := hid hba
          have HSA := hid (HST.out.below hba)
          have hbpc : bp ≠ bc := fun e => by have h := HST.out.hp; rw [e, HST.out.hc] at h; cases h
          clear hwa hba HW d0 d1 d2 d3 nN
          go_wp2_with (go_at_call 24; (with_reducible refine (PkLook1 bp bN bl 5 5 bc 5 wa i 0 1 2 0 [0, 1] noCuts (HM.out.stay HBA.out) (HN3.out.stay HM.out.l2 HBA.out) hlt (by omega) (by omega) (by have := HE.out; omega) (by have := HE.out; omega) (HN1.out.stay HM.out.l2 HBA.out).d0 hbpc ((cell_block HSA.out.hp 1).trans rfl) HSA.out.hc (cu3 HE.out) cu1 (HN0.out.stay HM.out.l2 HBA.out).d0 cu0 tA (by decide) (by omega) (by omega) (d3ok HE.out)).mono ?_); rintro e w5 ⟨g3, c3, gl3, cl3, rfl, hbc5, hg0, hg1, hlf, hgl, hgll, hgtl, hgr⟩; have HS5 := hid (HSA.out.cuts hgr hbc5); have HG := hid (⟨hg0, hg1, hlf, hgll, by have := boxLt HSA.out.hc; omega⟩ : w5.cell? ⟨g3, 0, none⟩ = some (.slice (some ⟨gl3, 0, none⟩) 2 cl3) ∧ w5.cell? ⟨g3, 1, none⟩ = some (.int .i64 1) ∧ LeafB w5 gl3 [0, 1] ∧ g3 < w5.heap.size ∧ g3 ≠ bc); clear hbc5 hg0 hg1 hlf hgl hgll hgtl hgr)
          go_roundw
          case rel => exact ⟨rfl, i + 1, by go_num, by omega, .inr (.inl ⟨by have := HE.out; omega, g3, c3, gl3, cl3, by have h := HS5.out; rw [HE.out] at h; exact h, HG.out⟩)⟩
          case measure => simp [intOf]; omega
      · have hbW := HB1.out.trans (hst.low.mono HB1.out.size)
        obtain ⟨n0, n3, n4, nN, nO, nS, lN, ll, ls⟩ := five_cells HN.out hB hbW
        have lNr : bN < wr.heap.size := Nat.lt_of_lt_of_le lN hbW.size
        have llr : bl < wr.heap.size := Nat.lt_of_lt_of_le ll hbW.size
        have hM := hst.m nN lNr llr
        have n4' : PkNode wr bl i 6 ((3 : Nat) : Int) ((2 : Nat) : Int) 0 := by rw [hi4]; exact n4
        have d0 : wr.cell? ⟨bl, i * 4, none⟩ = some (.int .i64 6) := n4'.d0
        have d1 : wr.cell? ⟨bl, i * 4 + 1, none⟩ = some (.int .i64 3) := n4'.d1
        have d2 : wr.cell? ⟨bl, i * 4 + 2, none⟩ = some (.int .i64 2) := n4'.d2
        have d3 : wr.cell? ⟨bl, i * 4 + 3, none⟩ = some (.int .i64 0) := n4'.d3
        have HW := hid (show ∀ wa, wr.alloc (.cells #[.int .i64 6, .int .i64 3, .int .i64 2, .int .i64 0] 48) = wa → Below wr.heap.size wr wa ∧ wa.cell? ⟨wr.heap.size, 0, none⟩ = some (.int .i64 6) from by
          rintro wa rfl
          exact ⟨(Below.refl _ _).alloc (Nat.le_refl _) _, (cell_new _ _ _ _).trans rfl⟩)
        have HST := hid hst
        have HN4 := hid n4'
        have HN3 := hid n3
        have HN2 := hid (n0 2 (by omega))
        have HM := hid hM
        have HE := hid hi4
        have HU0 := hid (show wr.cell? ⟨g3, 0, none⟩ = some (.slice (some ⟨gl3, 0, none⟩) ([0, 1] : List Nat).length cl3) from u0)
        have HU1 := hid u1
        have HL3 := hid hL3
        clear hst n0 n3 n4 n4' nO nS hM hi4 u0 u1 hL3
        go_upto_region 8 with fail
        obtain ⟨wa, hwa⟩ : ∃ wa, wr.alloc (.cells #[.int .i64 6, .int .i64 3, .int .i64 2, .int .i64 0] 48) = wa := ⟨_, rfl⟩
        obtain ⟨hba, e0⟩ := HW.out wa hwa
        rw [hwa]
        have HBA := hid hba
        have HSA := hid (HST.out.below hba)
        have hbpc : bp ≠ bc := fun e => by have h := HST.out.hp; rw [e, HST.out.hc] at h; cases h
        clear hwa hba HW d0 d1 d2 d3 nN
        go_wp2_with (go_at_call 24; (with_reducible refine (PkLook2 bp bN bl 5 5 bc 5 wa i 3 2 3 0 [0, 1, 2] (noCuts.setIfInBounds 3 (.slice (some ⟨g3, 0, none⟩) 1 c3)) g3 c3 gl3 cl3 2 [0, 1] [2, 3] [0, 1] (HM.out.stay HBA.out) (HN4.out.stay HM.out.l2 HBA.out) hlt (by omega) (by omega) (by have := HE.out; omega) (by have := HE.out; omega) (HN2.out.stay HM.out.l2 HBA.out).d0 hbpc ((cell_block HSA.out.hp 1).trans rfl) HSA.out.hc (cw4 HE.out) cw2 (HN3.out.stay HM.out.l2 HBA.out).d0 cw3 ((HBA.out.cell (p := ⟨g3, 0, none⟩) hg3l).trans HU0.out) ((HBA.out.cell (p := ⟨g3, 1, none⟩) hg3l).trans HU1.out) (Nat.lt_of_lt_of_le hg3l HBA.out.size) hg3c (HL3.out.keep (HBA.out.block gl3 HL3.out.lt)) (by decide) tB (by decide) (by omega) (by omega) (d4a HE.out) d4l (by decide) tC (by decide) (by omega) (by omega) (by omega) (d4b HE.out)).mono ?_); rintro e w5 ⟨g4, c4, gl4, cl4, rfl, hbc5, hg0, hg1, hlf, hgl, hgll, hgtl, hgr⟩; have HS5 := hid (HSA.out.cuts hgr hbc5); have HG := hid (⟨hg0, hlf, hgll⟩ : w5.cell? ⟨g4, 0, none⟩ = some (.slice (some ⟨gl4, 0, none⟩) 3 cl4) ∧ LeafB w5 gl4 [0, 1, 2] ∧ g4 < w5.heap.size); clear hbc5 hg0 hg1 hlf hgl hgll hgtl hgr)
        go_roundw
        case rel => exact ⟨rfl, i + 1, by go_num, by omega, .inr (.inr ⟨by have := HE.out; omega, _, g4, c4, gl4, cl4, HS5.out, by rw [HE.out]; rfl, HG.out⟩)⟩
        case measure => simp [intOf]; omega
      · omega
    · rcases hstage with ⟨hi3, _⟩ | ⟨hi4, _⟩ | ⟨hi9, cur, g4, c4, gl4, cl4, hst, hc4, u0, hL4, hg4l⟩
      · omega
      · omega
      · obtain ⟨wo, hwo⟩ : ∃ wo : World, wo = wr := ⟨_, rfl⟩
        rw [← hwo] at hst u0 hL4 hg4l ⊢
        clear hwo wr
        have hbW := HB1.out.trans (hst.low.mono HB1.out.size)
        obtain ⟨-, n3, n4, nN, nO, nS, lN, ll, ls⟩ := five_cells HN.out hB hbW
        have lNr : bN < wo.heap.size := Nat.lt_of_lt_of_le lN hbW.size
        have llr : bl < wo.heap.size := Nat.lt_of_lt_of_le ll hbW.size
        have hM := hst.m nN lNr llr
        have HSIG := hid (PkSig5 hst hc4 u0 hL4 hg4l hM n3 n4)
        have HST := hid hst
        have hiI : ¬ ((i : Nat) : Int) < 5 := by omega
        have p2 : wo.cell? ⟨bp, 2, none⟩ = some (.pointer (some ⟨bo, 0, none⟩)) := (cell_block hst.hp 2).trans rfl
        have o3 : wo.cell? ⟨bo, 3, none⟩ = some (.slice none 0 0) := (cell_block hst.ho 3).trans rfl
        have hbpl := boxLt hst.hp
        have hbol := boxLt hst.ho
        obtain ⟨i0, hi, hz0, hz1, hz2⟩ := info_parts Try.pkInt
        clear hst hc4 u0 hL4 hg4l hM n3 n4 lN ll ls lNr llr hi9 hi5 nN
        go_wp2_with fail
        go_loopw [85] (fun v wr => v = .int .i64 0 ∧ wr = wo) (fun _ _ => 0)
        case atStart => exact ⟨rfl, rfl⟩
        case round =>
          obtain ⟨rfl, hwr⟩ := hrel
          subst wr
          go_wp2_with fail
          go_loopw [117] (fun v wr => v = .int .i64 0 ∧ wr = wo) (fun _ _ => 0)
          case atStart => exact ⟨rfl, rfl⟩
          case round =>
            obtain ⟨rfl, hwr⟩ := hrel
            subst wr
            go_wp2_with fail
            go_loopw [148] (fun v wr => (v = .int .i64 0 ∧ wr = wo) ∨ (v = .int .i64 1 ∧ PkFin w1 bp bo wr)) (fun v _ => 1 - (intOf v).toNat)
            case atStart => exact .inl ⟨rfl, rfl⟩
            case round =>
              rcases hrel with ⟨rfl, hwr⟩ | ⟨rfl, hfin⟩
              · subst wr
                go_upto_region 29 with fail
                refine wpEnds.begin (fun w' => w'.cell? ⟨bp, 2, none⟩ = some (.pointer (some ⟨bo, 0, none⟩)) ∧ w'.cell? ⟨bo, 3, none⟩ = some (.slice none 0 0)) 18 (by kernel_rfl) ⟨p2, o3⟩ (fun hHeld => ?_)
                refine wpEnds.take 0 19 (v := ?vaz0) rfl (by kernel_rfl) (by kernel_rfl) (by kernel_rfl) (by kernel_rfl) (by kernel_rfl) (fun _ _ _ h => h) (by kernel_rfl) hHeld (fun w' hSw => ?hyaz0) ?restaz0
                case hyaz0 => ((try dsimp only at hSw); go_simp; try with_reducible rfl)
                case restaz0 =>
                (try simp only [Act.put, List.setIfInBounds_toArray, List.set_cons_zero, List.set_cons_succ])
                refine wpEnds.take 1 19 (v := ?vaz1) rfl (by kernel_rfl) (by kernel_rfl) (by kernel_rfl) (by kernel_rfl) (by kernel_rfl) (fun _ _ _ h => h) (by kernel_rfl) hHeld (fun w' hSw => ?hyaz1) ?restaz1
                case hyaz1 => ((try dsimp only at hSw); go_simp; try with_reducible rfl)
                case restaz1 =>
                (try simp only [Act.put, List.setIfInBounds_toArray, List.set_cons_zero, List.set_cons_succ])
                refine wpEnds.take 2 19 (v := ?vaz2) rfl (by kernel_rfl) (by kernel_rfl) (by kernel_rfl) (by kernel_rfl) (by kernel_rfl) (fun _ _ _ h => h) (by kernel_rfl) hHeld (fun w' hSw => ?hyaz2) ?restaz2
                case hyaz2 => ((try dsimp only at hSw); go_simp; try with_reducible rfl)
                case restaz2 =>
                (try simp only [Act.put, List.setIfInBounds_toArray, List.set_cons_zero, List.set_cons_succ])
                refine wpEnds.take 3 19 (v := ?vaz3) rfl (by kernel_rfl) (by kernel_rfl) (by kernel_rfl) (by kernel_rfl) (by kernel_rfl) (fun _ _ _ h => h) (by kernel_rfl) hHeld (fun w' hSw => ?hyaz3) ?restaz3
                case hyaz3 => ((try dsimp only at hSw); go_simp; try with_reducible rfl)
                case restaz3 =>
                (try simp only [Act.put, List.setIfInBounds_toArray, List.set_cons_zero, List.set_cons_succ])
                refine wpEnds.take 4 19 (v := ?vaz4) rfl (by kernel_rfl) (by kernel_rfl) (by kernel_rfl) (by kernel_rfl) (by kernel_rfl) (fun _ _ _ h => h) (by kernel_rfl) hHeld (fun w' hSw => ?hyaz4) ?restaz4
                case hyaz4 => ((try dsimp only at hSw); go_simp; try with_reducible rfl)
                case restaz4 =>
                (try simp only [Act.put, List.setIfInBounds_toArray, List.set_cons_zero, List.set_cons_succ])
                refine wpEnds.take 5 19 (v := ?vaz5) rfl (by kernel_rfl) (by kernel_rfl) (by kernel_rfl) (by kernel_rfl) (by kernel_rfl) (fun _ _ _ h => h) (by kernel_rfl) hHeld (fun w' hSw => ?hyaz5) ?restaz5
                case hyaz5 => ((try dsimp only at hSw); go_simp; try with_reducible rfl)
                case restaz5 =>
                (try simp only [Act.put, List.setIfInBounds_toArray, List.set_cons_zero, List.set_cons_succ])
                refine wpEnds.take 6 19 (v := ?vaz6) rfl (by kernel_rfl) (by kernel_rfl) (by kernel_rfl) (by kernel_rfl) (by kernel_rfl) (fun _ _ _ h => h) (by kernel_rfl) hHeld (fun w' hSw => ?hyaz6) ?restaz6
                case hyaz6 => ((try dsimp only at hSw); go_simp; try with_reducible rfl)
                case restaz6 =>
                (try simp only [Act.put, List.setIfInBounds_toArray, List.set_cons_zero, List.set_cons_succ])
                refine wpEnds.take 7 19 (v := ?vaz7) rfl (by kernel_rfl) (by kernel_rfl) (by kernel_rfl) (by kernel_rfl) (by kernel_rfl) (fun _ _ _ h => h) (by kernel_rfl) hHeld (fun w' hSw => ?hyaz7) ?restaz7
                case hyaz7 => ((try dsimp only at hSw); go_simp; try with_reducible rfl)
                case restaz7 =>
                (try simp only [Act.put, List.setIfInBounds_toArray, List.set_cons_zero, List.set_cons_succ])
                refine wpEnds.take 8 19 (v := ?vaz8) rfl (by kernel_rfl) (by kernel_rfl) (by kernel_rfl) (by kernel_rfl) (by kernel_rfl) (fun _ _ _ h => h) (by kernel_rfl) hHeld (fun w' hSw => ?hyaz8) ?restaz8
                case hyaz8 => ((try dsimp only at hSw); go_simp; try with_reducible rfl)
                case restaz8 =>
                (try simp only [Act.put, List.setIfInBounds_toArray, List.set_cons_zero, List.set_cons_succ])
                refine wpEnds.take 9 19 (v := ?vaz9) rfl (by kernel_rfl) (by kernel_rfl) (by kernel_rfl) (by kernel_rfl) (by kernel_rfl) (fun _ _ _ h => h) (by kernel_rfl) hHeld (fun w' hSw => ?hyaz9) ?restaz9
                case hyaz9 => ((try dsimp only at hSw); go_simp; try with_reducible rfl)
                case restaz9 =>
                (try simp only [Act.put, List.setIfInBounds_toArray, List.set_cons_zero, List.set_cons_succ])
                refine wpEnds.take 10 19 (v := ?vaz10) rfl (by kernel_rfl) (by kernel_rfl) (by kernel_rfl) (by kernel_rfl) (by kernel_rfl) (fun _ _ _ h => h) (by kernel_rfl) hHeld (fun w' hSw => ?hyaz10) ?restaz10
                case hyaz10 => ((try dsimp only at hSw); go_simp; try with_reducible rfl)
                case restaz10 =>
                (try simp only [Act.put, List.setIfInBounds_toArray, List.set_cons_zero, List.set_cons_succ])
                refine wpEnds.take 11 19 (v := ?vaz11) rfl (by kernel_rfl) (by kernel_rfl) (by kernel_rfl) (by kernel_rfl) (by kernel_rfl) (fun _ _ _ h => h) (by kernel_rfl) hHeld (fun w' hSw => ?hyaz11) ?restaz11
                case hyaz11 => ((try dsimp only at hSw); go_simp; try with_reducible rfl)
                case restaz11 =>
                (try simp only [Act.put, List.setIfInBounds_toArray, List.set_cons_zero, List.set_cons_succ])
                refine wpEnds.take 12 19 (v := ?vaz12) rfl (by kernel_rfl) (by kernel_rfl) (by kernel_rfl) (by kernel_rfl) (by kernel_rfl) (fun _ _ _ h => h) (by kernel_rfl) hHeld (fun w' hSw => ?hyaz12) ?restaz12
                case hyaz12 => ((try dsimp only at hSw); go_simp; try with_reducible rfl)
                case restaz12 =>
                (try simp only [Act.put, List.setIfInBounds_toArray, List.set_cons_zero, List.set_cons_succ])
                refine wpEnds.one 13 (by kernel_rfl) rfl (fun K hK => ?_)
                go_simp
                go_at_call 25
                with_reducible refine HSIG.out.mono ?_
                rintro e w5 ⟨gl, cl, gi, ci, T, hT, rfl, hh1, hh2, hh3, hh4, hh5, hh6, hh7, hh8, hh9⟩
                have hpo : bp ≠ bo := fun e => by
                  have h := HST.out.hp
                  rw [e, HST.out.ho] at h
                  cases h
                have hpm : bp ≠ bm := fun e => by
                  obtain ⟨es, clock, hx, _⟩ := HST.out.hm
                  have h := HST.out.hp
                  rw [e, hx] at h
                  cases h
                have q2 : w5.cell? ⟨bp, 2, none⟩ = some (.pointer (some ⟨bo, 0, none⟩)) := hh9.cell p2 hbpl hpm hpo
                have q3 : w5.cell? ⟨bo, 3, none⟩ = some (.slice none 0 0) := (cell_block hh1 3).trans rfl
                have hbp5 : bp < w5.heap.size := Nat.lt_of_lt_of_le hbpl hh9.size
                have hbo5 := boxLt hh1
                have HP := hid (⟨hT, hh1, hh2, hh3, hh4, hh5, hh6, hh7, hh8, hh9⟩ : _ ∧ _ ∧ _ ∧ _ ∧ _ ∧ _ ∧ _ ∧ _ ∧ _ ∧ _)
                clear hT hh1 hh2 hh3 hh4 hh5 hh6 hh7 hh8 hh9
                refine hK.out _ _ ⟨q2, q3⟩ ?_
                clear hK K
                (try simp only [Act.put, List.setIfInBounds_toArray, List.set_cons_zero, List.set_cons_succ])
                refine wpEnds.one 14 (by kernel_rfl) rfl (fun K hK => ?_)
                go_simp
                refine hK.out _ _ ⟨((ls_alloc _ _).cell hbp5).trans q2, ((ls_alloc _ _).cell hbo5).trans q3⟩ ?_
                clear hK K
                (try simp only [Act.put, List.setIfInBounds_toArray, List.set_cons_zero, List.set_cons_succ])
                refine wpEnds.one 15 (by kernel_rfl) rfl (fun K hK => ?_)
                refine append_held (by rfl) _ _ 24 (by rfl) w5.heap.size 3 i0 _ 1 8 Try.underlying24 hi hz0 hz1 hz2 (by rfl) (by decide) (.slice none 0 0) 0 [] (by rfl) (World.ownsRow_nil _ _ _ _) (some ⟨w5.heap.size, 0, none⟩) 1 1 [.int .i64 3] (by rfl) (by intro h; cases h) (by rfl) (by rintro ad' h j u hj'; cases h; rw [Addr.add_at]; exact (cell_new _ _ _ _).trans (by simpa using hj')) (by simp [Value.oneCell']) (by unfold maxLen; omega) (by omega) (by simp) ?_
                intro av1 cv1 wb HPO HRN hgb
                have hbw : Below w5.heap.size w5 wb := ((Below.refl w5.heap.size w5).alloc (Nat.le_refl _) (.cells #[.int .i64 3] 3)).grown hgb.out (by simp) (fun q hq => by cases hq)
                have cp2 := (hbw.cell (p := ⟨bp, 2, none⟩) hbp5).trans q2
                have co2 := (hbw.cell (p := ⟨bo, 3, none⟩) hbo5).trans q3
                have hbbo := (hbw.block bo hbo5).trans HP.out.2.1
                have hfr := free_block hbbo
                have hblt := boxLt hbbo
                have HFIN := hid (by
                  obtain ⟨hT, hh1, hh2, hh3, hh4, hh5, hh6, hh7, hh8, hh9⟩ := HP.out
                  exact pkFin HST.out hT hh1 hh2 hh3 hh4 hh5 hh6 hh7 hh8 hh9 hbw HRN.out)
                clear HPO HRN hgb hbw HP hbbo
                refine hK.out _ _ ⟨cp2, co2⟩ ?_
                clear hK K
                (try simp only [Act.put, List.setIfInBounds_toArray, List.set_cons_zero, List.set_cons_succ])
                refine wpEnds.take 16 19 (v := ?vay16) rfl (by kernel_rfl) (by kernel_rfl) (by kernel_rfl) (by kernel_rfl) (by kernel_rfl) (fun _ _ _ h => h) (by kernel_rfl) ⟨cp2, co2⟩ (fun w' hSw => ?hyay16) ?restay16
                case hyay16 => ((try dsimp only at hSw); go_simp; try with_reducible rfl)
                case restay16 =>
                (try simp only [Act.put, List.setIfInBounds_toArray, List.set_cons_zero, List.set_cons_succ])
                refine wpEnds.take 17 19 (v := ?vay17) rfl (by kernel_rfl) (by kernel_rfl) (by kernel_rfl) (by kernel_rfl) (by kernel_rfl) (fun _ _ _ h => h) (by kernel_rfl) ⟨cp2, co2⟩ (fun w' hSw => ?hyay17) ?restay17
                case hyay17 => ((try dsimp only at hSw); go_simp; try with_reducible rfl)
                case restay17 =>
                (try simp only [Act.put, List.setIfInBounds_toArray, List.set_cons_zero, List.set_cons_succ])
                refine wpEnds.last 18 (by kernel_rfl) (by kernel_rfl) rfl (fun K hK => ?_)
                go_simp
                refine hK.out _ _ ?_
                clear hK K
                (try simp only [Act.put, List.setIfInBounds_toArray, List.set_cons_zero, List.set_cons_succ])
                go_wp2_with fail
                go_roundw
                case rel => exact .inr ⟨rfl, HFIN.out⟩
                case measure => simp [intOf]
              · have HF := hid hfin
                obtain ⟨gl, cl, gi, ci, ga, ca, T, hT, h1, h2, h3, h4, h5, h6, h7, h8, h9, h10⟩ := hfin
                clear hT h1 h2 h3 h4 h5 h6 h7 h8 h9
                go_wp2_with fail
                go_ret2
                obtain ⟨y, T, hT, hL⟩ := HF.out.net
                obtain ⟨gl, cl, gi, ci, ga, ca, T9, hT9, h1, h2, h3, h4, h5, h6, h7, h8, h9, h10⟩ := HF.out
                exact ⟨_, y, T, rfl, hT, hL, HB1.out.trans (h9.mono HB1.out.size)⟩
end Go.Proofs.Ytlaeflpddehipab

/- From what an argument reads as to what lies in memory: nets, rows of rows of bits. -/
import Derived.Test.YtlaeflpddehipabTwMem
import Derived.Deep.Strs
set_option linter.unusedVariables false
namespace Go.Proofs.Ytlaeflpddehipab
open Go.RowKit Go.ChangeShapes Go.WideShapes Go.ChangeAt

section
variable {H : Type} {enc : TypeId × Value → H} {w : World} {held : Bool}

theorem Try.one_int : Try.prog.cellsOf 3 = 1 := by kernel_rfl
theorem Try.one_bool : Try.prog.cellsOf 4 = 1 := by kernel_rfl
theorem Try.one_ints : Try.prog.cellsOf 24 = 1 := by kernel_rfl
theorem Try.one_bools : Try.prog.cellsOf 36 = 1 := by kernel_rfl
theorem Try.one_nodes : Try.prog.cellsOf 49 = 1 := by kernel_rfl
theorem Try.four_node : Try.prog.cellsOf 48 = 4 := by kernel_rfl
theorem Try.three_net : Try.prog.cellsOf 51 = 3 := by kernel_rfl

def GN.fits (x : GN) : Prop := I64 x.op ∧ I64 x.a ∧ I64 x.b ∧ I64 x.next

set_option maxRecDepth 100000 in
theorem open_node {m : Nat} {cs : List Value} {y : DataW H × List MemPlace} (h : DataW.trod enc Try.prog w 0 (fun _ => true) held m 48 cs = some y) : ∃ x : GN, cs = x.cells.toList ∧ x.fits := by
  obtain ⟨xs, n, _, _, hl, hlen, hf⟩ := DataW.trod_struct Try.underlying48 h
  have hl' : cs.length = 4 := hl.trans Try.four_node
  have hx : xs.length = 4 := hlen
  match cs, hl' with
  | [v0, v1, v2, v3], _ =>
    match xs, hx with
    | [x0, x1, x2, x3], _ =>
      have f0 : DataW.trod enc Try.prog w 0 (fun _ => true) held n 3 ([v0, v1, v2, v3].take (Try.prog.cellsOf 3)) = some x0 := hf 0 _ rfl
      have f1 : DataW.trod enc Try.prog w 0 (fun _ => true) held n 3 ([v1, v2, v3].take (Try.prog.cellsOf 3)) = some x1 := hf 1 _ rfl
      have f2 : DataW.trod enc Try.prog w 0 (fun _ => true) held n 3 ([v2, v3].take (Try.prog.cellsOf 3)) = some x2 := hf 2 _ rfl
      have f3 : DataW.trod enc Try.prog w 0 (fun _ => true) held n 3 ([v3].take (Try.prog.cellsOf 3)) = some x3 := hf 3 _ rfl
      rw [Try.one_int] at f0 f1 f2 f3
      obtain ⟨z0, rfl, w0⟩ := cell_int Try.underlying3 f0
      obtain ⟨z1, rfl, w1⟩ := cell_int Try.underlying3 f1
      obtain ⟨z2, rfl, w2⟩ := cell_int Try.underlying3 f2
      obtain ⟨z3, rfl, w3⟩ := cell_int Try.underlying3 f3
      exact ⟨⟨z0, z1, z2, z3⟩, rfl, w0, w1, w2, w3⟩

theorem cells_at (x : GN) (k : Nat) (hk : k < 4) : x.cells.toList.getD k undef = x.cell k := by
  match k, hk with
  | 0, _ => rfl
  | 1, _ => rfl
  | 2, _ => rfl
  | 3, _ => rfl

set_option maxRecDepth 100000 in
/-- What is known of a slice of nodes that reads. -/
theorem open_nodes {fuel : Nat} {cs : List Value} {x : DataW H × List MemPlace} (h : DataW.trod enc Try.prog w 0 (fun _ => true) held fuel 49 cs = some x) :
    ∃ (a : Option Addr) (c : Nat) (l : List GN), cs = [.slice a l.length c] ∧ (a = none → l.length = 0 ∧ c = 0) ∧ l.length ≤ c ∧ c ≤ maxLen ∧ (∀ z ∈ l, z.fits) ∧ Cells w.heap.size w a (l.length * 4) (nodeCell l) := by
  obtain ⟨a, n, c, V, rfl, ha, hn, hcm, hV, hcells⟩ := open_row Try.underlying49 Try.four_node (by omega) h
  have hb : ∀ i, i < n → ∃ z : GN, V i = z.cells.toList ∧ z.fits := by
    intro i hi
    obtain ⟨hlen, m, y, hy⟩ := hV i hi
    exact open_node hy
  obtain ⟨f, hf⟩ := Deep.choose_lt (α := GN) hb
  refine ⟨a, c, (List.range n).map f, by simp, by simpa using ha, by simpa using hn, hcm, ?_, ?_⟩
  · intro z hz
    obtain ⟨i, hi, rfl⟩ := List.mem_map.1 hz
    exact (hf i (by simpa using hi)).2
  · have hlen : ((List.range n).map f).length = n := by simp
    rw [hlen]
    refine hcells.congr fun j hj => ?_
    have hj4 : j / 4 < n := by omega
    rw [(hf _ hj4).1, cells_at _ _ (Nat.mod_lt _ (by omega))]
    simp [nodeCell, List.getD_eq_getElem?_getD, hj4]

set_option maxRecDepth 100000 in
theorem open_net {fuel : Nat} {cs : List Value} {x : DataW H × List MemPlace} (h : DataW.trod enc Try.prog w 0 (fun _ => true) held fuel 51 cs = some x) :
    ∃ (a : Option Addr) (c : Nat) (a' : Option Addr) (c' : Nat) (N : Net), cs = [.int .i64 N.given, .slice a N.nodes.length c, .slice a' N.outs.length c'] ∧ NetRows w.heap.size w a c a' c' N ∧ (a = none → N.nodes.length = 0 ∧ c = 0) ∧ (a' = none → N.outs.length = 0 ∧ c' = 0) ∧
      I64 N.given ∧ (∀ z ∈ N.nodes, z.fits) ∧ (∀ z ∈ N.outs, I64 z) := by
  obtain ⟨y0, y1, y2, n, _, hl, h0, h1, h2⟩ := Deep.trod_struct3 Try.underlying51 h
  have hl' : cs.length = 3 := hl.trans Try.three_net
  match cs, hl' with
  | [v0, v1, v2], _ =>
    have f0 : DataW.trod enc Try.prog w 0 (fun _ => true) held n 3 ([v0, v1, v2].take (Try.prog.cellsOf 3)) = some y0 := h0
    have f1 : DataW.trod enc Try.prog w 0 (fun _ => true) held n 49 ([v1, v2].take (Try.prog.cellsOf 49)) = some y1 := h1
    have f2 : DataW.trod enc Try.prog w 0 (fun _ => true) held n 24 ([v2].take (Try.prog.cellsOf 24)) = some y2 := h2
    rw [Try.one_int] at f0
    rw [Try.one_nodes] at f1
    rw [Try.one_ints] at f2
    obtain ⟨z, rfl, wz⟩ := cell_int Try.underlying3 f0
    obtain ⟨a, c, l, e1, ha, hlc, hcm, hfit, hrn⟩ := open_nodes f1
    obtain ⟨a', c', l', e2, ha', hlc', hcm', hfit', hro⟩ := open_introw Try.underlying24 Try.underlying3 Try.one_int f2
    have e1' : v1 = .slice a l.length c := by simpa using e1
    have e2' : v2 = .slice a' l'.length c' := by simpa using e2
    subst e1' e2'
    exact ⟨a, c, a', c', ⟨z, l, l'⟩, rfl, ⟨hrn, hro, Nat.le_trans hlc hcm, Nat.le_trans hlc' hcm'⟩, ha, ha', wz, hfit, hfit'⟩

set_option maxRecDepth 100000 in
/-- What is known of a slice of slices of bits that reads. -/
theorem open_bitrows {fuel : Nat} {cs : List Value} {x : DataW H × List MemPlace} (h : DataW.trod enc Try.prog w 0 (fun _ => true) held fuel 27 cs = some x) :
    ∃ (a : Option Addr) (c : Nat) (gs : List (List Bool)) (A : Nat → Option Addr) (C : Nat → Nat), cs = [.slice a gs.length c] ∧ (a = none → gs.length = 0 ∧ c = 0) ∧ GivenRows w.heap.size w a gs A C ∧ gs.length ≤ maxLen := by
  obtain ⟨a, n, c, V, rfl, ha, hn, hcm, hV, hcells⟩ := open_row Try.underlying27 Try.one_bools (by omega) h
  have hb : ∀ i, i < n → ∃ z : Option Addr × Nat × List Bool, V i = [.slice z.1 z.2.2.length z.2.1] ∧ (z.1 = none → z.2.2.length = 0 ∧ z.2.1 = 0) ∧ z.2.2.length ≤ maxLen ∧ Cells w.heap.size w z.1 z.2.2.length (fun i => .bool (z.2.2.getD i false)) := by
    intro i hi
    obtain ⟨hlen, m, y, hy⟩ := hV i hi
    obtain ⟨a, c, l, e, h1, h2, h3, h4⟩ := open_bools Try.underlying36 Try.underlying4 Try.one_bool hy
    exact ⟨(a, c, l), e, h1, Nat.le_trans h2 h3, h4⟩
  obtain ⟨f, hf⟩ := Deep.choose_lt (α := Option Addr × Nat × List Bool) hb
  have hget : ∀ i, i < n → ((List.range n).map fun i => (f i).2.2).getD i [] = (f i).2.2 := by
    intro i hi
    simp [List.getD_eq_getElem?_getD, hi]
  refine ⟨a, c, (List.range n).map fun i => (f i).2.2, fun i => (f i).1, fun i => (f i).2.1, by simp, by simpa using ha, ⟨?_, ?_, ?_, ?_⟩, by simpa using Nat.le_trans hn hcm⟩
  · have hlen : ((List.range n).map fun i => (f i).2.2).length = n := by simp
    rw [hlen]
    rw [Nat.mul_one] at hcells
    refine hcells.congr fun j hj => ?_
    rw [hget j hj]
    simp [Nat.mod_one, (hf j hj).1]
  · intro i hi
    have hi' : i < n := by simpa using hi
    rw [hget i hi']
    exact (hf i hi').2.2.2
  · intro i
    by_cases hi : i < n
    · rw [hget i hi]; exact (hf i hi).2.2.1
    · rw [List.getD_eq_getElem?_getD, List.getElem?_eq_none (by simp; omega)]
      exact Nat.zero_le _
  · intro i hi h0
    have hi' : i < n := by simpa using hi
    rw [hget i hi']
    exact (hf i hi').2.1 h0
end
end Go.Proofs.Ytlaeflpddehipab

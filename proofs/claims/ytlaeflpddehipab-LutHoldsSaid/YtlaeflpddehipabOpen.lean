/- From what an argument reads as to what lies in memory: slices, element by element. -/
import Derived.Test.YtlaeflpddehipabBase
import Derived.ProofKit
import Derived.OpenShut
import Derived.Deep.Slices
set_option linter.unusedVariables false
namespace Go.Proofs.Ytlaeflpddehipab
open Go.RowKit Go.ChangeShapes Go.WideShapes Go.ChangeAt

section
variable {H : Type} {enc : TypeId × Value → H} {P : Program} {w : World} {held : Bool}

theorem lt_of_cell {w : World} {a : Addr} {v : Value} (h : w.cell? a = some v) : a.block < w.heap.size ∧ a.spot = none := by
  unfold World.cell? at h
  constructor
  · rcases Nat.lt_or_ge a.block w.heap.size with h' | h'
    · exact h'
    · simp [Array.getElem?_eq_none h'] at h
  · cases hs : a.spot with
    | none => rfl
    | some s => split at h <;> simp [hs] at h

theorem cells?_get {w : World} {base : Nat} {a : Addr} {n : Nat} {cs : List Value} (h : w.cells? base a n = some cs) : cs.length = n ∧ ∀ k, k < n → w.cell? (a.add k) = some (cs.getD k undef) := by
  obtain ⟨_, hlen, hc⟩ := World.cells?_some h
  refine ⟨hlen, fun k hk => ?_⟩
  rw [hc k hk]
  simp [List.getD_eq_getElem?_getD, hlen, hk]

theorem open_row {T E : TypeId} {sz fuel : Nat} {cs : List Value} {x : DataW H × List MemPlace} (hT : P.underlying T = some (.slice E)) (hc : P.cellsOf E = sz) (hsz : 0 < sz)
    (h : DataW.trod enc P w 0 (fun _ => true) held fuel T cs = some x) :
    ∃ (a : Option Addr) (n c : Nat) (V : Nat → List Value), cs = [.slice a n c] ∧ (a = none → n = 0 ∧ c = 0) ∧ n ≤ c ∧ c ≤ maxLen ∧
      (∀ i, i < n → (V i).length = sz ∧ ∃ m y, DataW.trod enc P w 0 (fun _ => true) held m E (V i) = some y) ∧
      Cells w.heap.size w a (n * sz) (fun j => (V (j / sz)).getD (j % sz) undef) := by
  rcases Deep.open_slice hT h with ⟨rfl, _⟩ | ⟨ad, len, cap, m, k, D, Pl, rfl, _, hl, hm, hmm, _, hx⟩
  · exact ⟨none, 0, 0, fun _ => [], rfl, fun _ => ⟨rfl, rfl⟩, Nat.le_refl _, Nat.zero_le _, fun i hi => by omega, .inl (by omega)⟩
  · simp only [if_true] at hmm
    subst hmm
    rw [hc] at hx
    obtain ⟨V, hV⟩ := Deep.choose_lt (α := List Value) (p := fun i cs' => w.cells? 0 (ad.add (i * sz)) sz = some cs' ∧ DataW.trod enc P w 0 (fun _ => true) held k E cs' = some (D i, Pl i)) hx
    refine ⟨some ad, len, m, V, rfl, (fun e => by cases e), hl, hm, fun i hi => ?_, ?_⟩
    · obtain ⟨h1, h2⟩ := hV i (by omega)
      exact ⟨(cells?_get h1).1, k, _, h2⟩
    · by_cases hn : len = 0
      · exact .inl (by rw [hn]; omega)
      · right
        have h0 := (cells?_get (hV 0 (by omega)).1).2 0 hsz
        have hsp : ad.spot = none := by
          have e : (ad.add (0 * sz)).add 0 = ad := by simp [Addr.add]
          rw [e] at h0
          exact (lt_of_cell h0).2
        have hbl : ad.block < w.heap.size := by
          have e : (ad.add (0 * sz)).add 0 = ad := by simp [Addr.add]
          rw [e] at h0
          exact (lt_of_cell h0).1
        have had : ad = ⟨ad.block, ad.off, none⟩ := by rw [← hsp]
        refine ⟨ad.block, ad.off, by rw [← had], hbl, fun j hj => ?_⟩
        have hq : j / sz < len := Nat.div_lt_of_lt_mul (by rw [Nat.mul_comm]; exact hj)
        have h1 := (cells?_get (hV (j / sz) (by omega)).1).2 (j % sz) (Nat.mod_lt _ hsz)
        have e : (ad.add (j / sz * sz)).add (j % sz) = ⟨ad.block, ad.off + j, none⟩ := by
          rw [Deep.add_add]
          have : j / sz * sz + j % sz = j := by rw [Nat.mul_comm]; exact Nat.div_add_mod j sz
          rw [this]
          unfold Addr.add
          split
          · rename_i h0'; rw [h0', Nat.add_zero]; exact had
          · rfl
        rw [e] at h1
        exact h1

/-- What is known of a slice of bools that reads. -/
theorem open_bools {T E : TypeId} {fuel : Nat} {cs : List Value} {x : DataW H × List MemPlace} (hT : P.underlying T = some (.slice E)) (hE : P.underlying E = some .bool) (hc : P.cellsOf E = 1)
    (h : DataW.trod enc P w 0 (fun _ => true) held fuel T cs = some x) :
    ∃ (a : Option Addr) (c : Nat) (l : List Bool), cs = [.slice a l.length c] ∧ (a = none → l.length = 0 ∧ c = 0) ∧ l.length ≤ c ∧ c ≤ maxLen ∧ Cells w.heap.size w a l.length (fun i => .bool (l.getD i false)) := by
  obtain ⟨a, n, c, V, rfl, ha, hn, hcm, hV, hcells⟩ := open_row hT hc (by omega) h
  have hb : ∀ i, i < n → ∃ b : Bool, V i = [.bool b] := by
    intro i hi
    obtain ⟨hlen, m, y, hy⟩ := hV i hi
    match m, hy with
    | m + 1, hy =>
      match hv : V i, hlen with
      | [v], _ =>
        rw [hv] at hy
        cases v <;> simp [DataW.trod, hE] at hy
        exact ⟨_, rfl⟩
  obtain ⟨f, hf⟩ := Deep.choose_lt (α := Bool) hb
  refine ⟨a, c, (List.range n).map f, by simp, by simpa using ha, by simpa using hn, hcm, ?_⟩
  have hlen : ((List.range n).map f).length = n := by simp
  rw [hlen]
  rw [Nat.mul_one] at hcells
  rcases hcells with h0 | ⟨b, off, e, hB, hcell⟩
  · exact .inl h0
  · refine .inr ⟨b, off, e, hB, fun j hj => (hcell j hj).trans ?_⟩
    simp [Nat.mod_one, hf j hj, List.getD_eq_getElem?_getD, hj]

/-- A number that fits its 64 bits. -/
def I64 (x : Int) : Prop := -9223372036854775808 ≤ x ∧ x ≤ 9223372036854775807

theorem i64_of_wf {x : Int} (h : (Lit.int .i64 x).wf = true) : I64 x := by
  have hmin : IntKind.i64.min = -9223372036854775808 := rfl
  have hmax : IntKind.i64.max = 9223372036854775807 := rfl
  simp only [Lit.wf, Bool.and_eq_true, decide_eq_true_eq] at h
  unfold I64
  omega

/-- One cell of an integer type. -/
theorem cell_int {E : TypeId} {m : Nat} {v : Value} {y : DataW H × List MemPlace} (hE : P.underlying E = some (.int .i64)) (h : DataW.trod enc P w 0 (fun _ => true) held m E [v] = some y) : ∃ z, v = .int .i64 z ∧ I64 z := by
  match m, h with
  | m + 1, hy =>
    cases v <;> simp [DataW.trod, hE] at hy
    obtain ⟨⟨rfl, hw⟩, _⟩ := hy
    exact ⟨_, rfl, i64_of_wf hw⟩

theorem cell_bool {E : TypeId} {m : Nat} {v : Value} {y : DataW H × List MemPlace} (hE : P.underlying E = some .bool) (h : DataW.trod enc P w 0 (fun _ => true) held m E [v] = some y) : ∃ b, v = .bool b := by
  match m, h with
  | m + 1, hy =>
    cases v <;> simp [DataW.trod, hE] at hy
    exact ⟨_, rfl⟩

/-- What is known of a slice of ints that reads. -/
theorem open_introw {T E : TypeId} {fuel : Nat} {cs : List Value} {x : DataW H × List MemPlace} (hT : P.underlying T = some (.slice E)) (hE : P.underlying E = some (.int .i64)) (hc : P.cellsOf E = 1)
    (h : DataW.trod enc P w 0 (fun _ => true) held fuel T cs = some x) :
    ∃ (a : Option Addr) (c : Nat) (l : List Int), cs = [.slice a l.length c] ∧ (a = none → l.length = 0 ∧ c = 0) ∧ l.length ≤ c ∧ c ≤ maxLen ∧ (∀ z ∈ l, I64 z) ∧ Cells w.heap.size w a l.length (fun i => .int .i64 (l.getD i 0)) := by
  obtain ⟨a, n, c, V, rfl, ha, hn, hcm, hV, hcells⟩ := open_row hT hc (by omega) h
  have hb : ∀ i, i < n → ∃ z : Int, V i = [.int .i64 z] ∧ I64 z := by
    intro i hi
    obtain ⟨hlen, m, y, hy⟩ := hV i hi
    match hv : V i, hlen with
    | [v], _ =>
      rw [hv] at hy
      obtain ⟨z, rfl, hz⟩ := cell_int hE hy
      exact ⟨z, rfl, hz⟩
  obtain ⟨f, hf⟩ := Deep.choose_lt (α := Int) hb
  refine ⟨a, c, (List.range n).map f, by simp, by simpa using ha, by simpa using hn, hcm, ?_, ?_⟩
  · intro z hz
    obtain ⟨i, hi, rfl⟩ := List.mem_map.1 hz
    exact (hf i (by simpa using hi)).2
  · have hlen : ((List.range n).map f).length = n := by simp
    rw [hlen]
    rw [Nat.mul_one] at hcells
    rcases hcells with h0 | ⟨b, off, e, hB, hcell⟩
    · exact .inl h0
    · refine .inr ⟨b, off, e, hB, fun j hj => (hcell j hj).trans ?_⟩
      simp [Nat.mod_one, (hf j hj).1, List.getD_eq_getElem?_getD, hj]
end
end Go.Proofs.Ytlaeflpddehipab

/- 'append(out, make([]T, m)...)': the translation hands append the number m: a law for it, on a slice of the call's own. Laws for single steps of regions that draw their order: an empty row made, a slice appended. Nets as values; whether a net is few enough to be held. What is turned twice is itself: plain. Nets in the making: rows of nodes, blocks, what stays. Simulators and rows of bits: used where something else has happened since. -/
import Derived.Test.YtlaeflpddehipabDoorBase
import Derived.Lib.AppendZeros
import Derived.Laws.AppendOwnNone
import Derived.Deep.RegionHeld3
import Derived.Deep.AppendLies
import Derived.Deep.DrawnRows
import Derived.Test.YtlaeflpddehipabDoorNetUse
import Derived.Test.YtlaeflpddehipabDoorNetVals
import Derived.Test.YtlaeflpddehipabDoorOpenAll
import Derived.Deep.DeepCutAuto
import Derived.Deep.RegionLaw
section
set_option linter.unusedVariables false
namespace Go.Proofs.YtlaeflpddehipabDoor
open Go.RowKit

section
variable {P : Program} (w : World)

theorem run_zeros_grow (t tn ty e : TypeId) (i : TypeInfo) (z : Value) (k kn : IntKind) (ht : P.underlying t = some (.slice e)) (htn : P.underlying tn = some (.int kn)) (hi : P.info? e = some i) (hz : i.zero = some z)
    (b : Addr) (sLen sCap : Nat) (olds : List Value) (hlo : olds.length = sLen * i.size) (holds : ∀ j v, olds[j]? = some v → w.cell? (b.add j) = some v)
    (n : Nat) (hs : 0 < i.size) (hg : sCap < sLen + n) (h63 : ((sLen + n : Nat) : Int) ≤ 9223372036854775807) (h48 : n * i.bytes ≤ 281474976710656) (hn0 : 0 < n) (hfit : Builtin.nextslicecap (sLen + n) sCap * i.bytes ≤ 281474976710656) :
    (Builtin.append_ #[t, tn] ty #[.slice (some b) sLen sCap, .int k n]).run P w =
      .ok (.slice (some ⟨w.heap.size, 0, none⟩) (sLen + n) (grownCap w (sLen + n) sCap e))
        (w.drew.alloc (.cells (olds.toArray ++ Builtin.zeroCells z.cells n ++ Builtin.zeroCells z.cells (grownCap w (sLen + n) sCap e - (sLen + n))) e)) := by
  have hn : ¬ (sLen + n ≤ sCap) := by omega
  have hw : IntKind.i64.wrap (n : Int) = n := by rw [IntKind.wrap_i64]; omega
  have hneg : ¬ ((n : Int) < 0) := by omega
  have h63' : ¬ (9223372036854775807 < ((sLen : Int) + (n : Int))) := by omega
  have h48' : ¬ (281474976710656 < Builtin.nextslicecap (sLen + n) sCap * i.bytes) := by omega
  have h48i : ¬ (281474976710656 < (n : Int) * (i.bytes : Int)) := by
    rw [← Int.natCast_mul]
    omega
  have hns : ¬ (n * i.size = 0) := Nat.mul_ne_zero (by omega) (by omega)
  have hfo := run_firstCells_some (P := P) w.drew i.size sLen b sLen sCap olds hlo (by simpa using holds)
  simp [Builtin.append_, run_underlying ht, run_underlying htn, sizeOf, typeInfo, zeroValue, hi, hz, asInt, asIntOf, hw, hn, hneg, hns, h63', h48', h48i, Question.forced, hfo, newRow, grownCap]

theorem run_zeros_room (t tn ty e : TypeId) (i : TypeInfo) (z : Value) (k kn : IntKind) (ht : P.underlying t = some (.slice e)) (htn : P.underlying tn = some (.int kn)) (hi : P.info? e = some i) (hz : i.zero = some z)
    (g sLen sCap : Nat) (cur : Array Value) (hg : w.heap[g]? = some (.cells cur e (0, 0)))
    (n : Nat) (hs : 0 < i.size) (hn0 : 0 < n) (h63 : (n : Int) ≤ 9223372036854775807) (h48 : n * i.bytes ≤ 281474976710656) (h1 : ∀ u ∈ (Builtin.zeroCells z.cells n).toList, u.oneCell' = true) (hzs : z.cells.size = i.size)
    (hroom : sLen + n ≤ sCap) (hfit : sLen * i.size + n * i.size ≤ cur.size) :
    (Builtin.append_ #[t, tn] ty #[.slice (some ⟨g, 0, none⟩) sLen sCap, .int k n]).run P w =
      .ok (.slice (some ⟨g, 0, none⟩) (sLen + n) sCap) (w.setRow g (cur.toList.take (sLen * i.size) ++ (Builtin.zeroCells z.cells n).toList ++ cur.toList.drop (sLen * i.size + n * i.size)).toArray) := by
  have hw : IntKind.i64.wrap (n : Int) = n := by rw [IntKind.wrap_i64]; omega
  have hneg : ¬ ((n : Int) < 0) := by omega
  have h48i : ¬ (281474976710656 < (n : Int) * (i.bytes : Int)) := by
    rw [← Int.natCast_mul]
    omega
  have hns : ¬ (n * i.size = 0) := Nat.mul_ne_zero (by omega) (by omega)
  have hl : (Builtin.zeroCells z.cells n).toList.length = n * i.size := by rw [Array.length_toList, size_zeroCells, hzs]
  have hst := run_storeCells_at P g (sLen * i.size) e (Builtin.zeroCells z.cells n).toList 0 cur w hg (by rw [hl]; simpa using hfit) h1
  simp only [Nat.add_zero, hl] at hst
  simp [Builtin.append_, run_underlying ht, run_underlying htn, sizeOf, typeInfo, zeroValue, hi, hz, asInt, asIntOf, hw, hneg, hns, h48i, hroom, Addr.add_lit, hst]

/-- m zeros more: out is the call's own (or nil); m is at least one. -/
theorem run_zeros_own (base : Nat) (t tn ty e : TypeId) (i : TypeInfo) (z : Value) (k kn : IntKind) (size bytes : Nat) (ht : P.underlying t = some (.slice e)) (htn : P.underlying tn = some (.int kn)) (hi : P.info? e = some i) (hz : i.zero = some z)
    (hsize : i.size = size) (hby : i.bytes = bytes) (hzs : z.cells.size = size) (hsz : 0 < size)
    (v : Value) (n : Nat) (xs : List Value) (hown : w.ownsRow base e size v n xs) (m : Nat) (hm0 : 0 < m) (h1 : ∀ u ∈ (Builtin.zeroCells z.cells m).toList, u.oneCell' = true)
    (h63 : n + m ≤ maxLen) (hbytes : (n + m) * bytes ≤ 140737488355328) (hbase : base ≤ w.heap.size) :
    ∃ v' w', (Builtin.append_ #[t, tn] ty #[v, .int k m]).run P w = .ok v' w' ∧ w'.ownsRow base e size v' (n + m) (xs ++ (Builtin.zeroCells z.cells m).toList) ∧ w.grownBy w' v.ownBlock := by
  subst hsize
  subst hby
  have hsmall : n + m ≤ 9223372036854775807 := by simp only [maxLen] at h63; omega
  have hl : (Builtin.zeroCells z.cells m).toList.length = m * i.size := by rw [Array.length_toList, size_zeroCells, hzs]
  have hlen : (xs ++ (Builtin.zeroCells z.cells m).toList).length = (n + m) * i.size := by rw [List.length_append, hown.1, hl, Nat.add_mul]
  have hmb : m * i.bytes ≤ 281474976710656 := by rw [Nat.add_mul] at hbytes; omega
  have grown : ∀ (old : Nat), old < n + m → ∀ (row : Option Nat),
      (w.drew.alloc (.cells (xs.toArray ++ Builtin.zeroCells z.cells m ++ Builtin.zeroCells z.cells (grownCap w (n + m) old e - (n + m))) e)).ownsRow base e i.size
        (.slice (some ⟨w.heap.size, 0, none⟩) (n + m) (grownCap w (n + m) old e)) (n + m) (xs ++ (Builtin.zeroCells z.cells m).toList) ∧
      w.grownBy (w.drew.alloc (.cells (xs.toArray ++ Builtin.zeroCells z.cells m ++ Builtin.zeroCells z.cells (grownCap w (n + m) old e - (n + m))) e)) row := by
    intro old ho row
    have hge := grownCap_ge w (n + m) old e
    have hcm : grownCap w (n + m) old e ≤ maxLen := grownCap_le_maxLen w (n + m) old e h63
    refine ⟨⟨hlen, .inr ⟨w.heap.size, _, _, rfl, hbase, heap_alloc_new w.drew _, hge, hcm, ?_, ?_⟩⟩, ⟨rfl, rfl, rfl, by simp, fun k hk _ => Below.heap_alloc w.drew _ k hk⟩⟩
    · simp only [Array.size_append, List.size_toArray, size_zeroCells, hzs, hown.1, ← Nat.add_mul]
      congr 1
      omega
    · simp only [Array.toList_append, List.append_assoc]
      rw [← List.append_assoc, ← hlen]
      exact List.take_left
  rcases hown.2 with ⟨rfl, rfl⟩ | ⟨g, cap, cur, rfl, hbg, hg, hnc, hcm, hcs, htake⟩
  · have hx : xs = [] := List.eq_nil_of_length_eq_zero (by simpa using hown.1)
    subst hx
    have hr := Lib.run_append_nil_zeros (P := P) w t tn ty e i z k kn ht htn hi hz m hm0 (by omega) (by omega) (by have hb := hbytes; simp only [Nat.zero_add] at hb; omega)
    have hgr := grown 0 (by omega) (Value.ownBlock (.slice none 0 0))
    simp only [Nat.zero_add, List.nil_append, Array.empty_append] at hgr ⊢
    exact ⟨_, _, hr, hgr.1, hgr.2⟩
  · by_cases hroom : n + m ≤ cap
    · have hfit : n * i.size + m * i.size ≤ cur.size := by rw [hcs, ← Nat.add_mul]; exact Nat.mul_le_mul_right _ hroom
      have hr := run_zeros_room (P := P) w t tn ty e i z k kn ht htn hi hz g n cap cur hg m hsz hm0 (by omega) hmb h1 hzs hroom hfit
      refine ⟨_, _, hr, ⟨hlen, .inr ⟨g, cap, _, rfl, hbg, setRow_heap w g cur _ e _ hg, hroom, hcm, ?_, ?_⟩⟩, ⟨rfl, rfl, rfl, by simp, fun k _ hk => setRow_other w g k _ (fun e => hk (by simp [Value.ownBlock, e]))⟩⟩
      · simp only [List.size_toArray, List.length_append, List.length_take, List.length_drop, Array.length_toList, size_zeroCells, hzs]
        omega
      · rw [htake, ← hlen]
        exact List.take_left
    · have holds : ∀ j u, xs[j]? = some u → w.cell? ((⟨g, 0, none⟩ : Addr).add j) = some u := hown.cells (g := g) rfl
      have hr := run_zeros_grow (P := P) w t tn ty e i z k kn ht htn hi hz ⟨g, 0, none⟩ n cap xs hown.1 holds m hsz (by omega) (by omega) hmb hm0 (growslice_fits (by omega) hbytes)
      have hgr := grown cap (by omega) (Value.ownBlock (.slice (some ⟨g, 0, none⟩) n cap))
      exact ⟨_, _, hr, hgr.1, hgr.2⟩
end

theorem toList_zeroCells_one (z : Value) (n : Nat) (h : z.cells = #[z]) : (Builtin.zeroCells z.cells n).toList = List.replicate n z := by
  rw [h]
  apply List.ext_getElem
  · simp [Builtin.zeroCells]
  · intro k h1 h2
    simp [Builtin.zeroCells, Nat.mod_one]

/-- The operation, for the walk (one cell an element): 'out = append(out, make([]T, m)...)'. -/
theorem wpList_zeros {P : Program} {ops : Array Oper} {rest : List Oper} {o : Oper} {a : Act} {Q : Exit → Act → World → Prop} (w : World) (w0 : World) (hgd : o.guard = none) (s x : Operand) (t tn : TypeId)
    (ho : o.op = .call { callee := .builtin .append, args := #[s, x], argTypes := #[t, tn] })
    (e : TypeId) (i : TypeInfo) (z : Value) (k kn : IntKind) (bytes : Nat) (ht : P.underlying t = some (.slice e)) (htn : P.underlying tn = some (.int kn)) (hi : P.info? e = some i) (hz : i.zero = some z)
    (hsize : i.size = 1) (hby : i.bytes = bytes) (hz1 : z.cells = #[z]) (hzo : z.oneCell' = true)
    (base : Nat) (v : Value) (n : Nat) (xs : List Value) (hs : a.eval s = v) (hown : w.ownsRow base e 1 v n xs)
    (m : Nat) (hx : a.eval x = .int k m) (hm0 : 0 < m)
    (h63 : n + m ≤ maxLen) (hbytes : (n + m) * bytes ≤ 140737488355328) (hbel : Below w0.heap.size w0 w) (hbase : w0.heap.size ≤ base) (hbase' : base ≤ w.heap.size)
    (h : ∀ v' w', w'.ownsRow base e 1 v' (n + m) (xs ++ List.replicate m z) → Below w0.heap.size w0 w' → w.grownBy w' v.ownBlock → wpList P ops Q rest (a.put o.dst v') w') :
    wpList P ops Q (o :: rest) a w := by
  have hrep := toList_zeroCells_one z m hz1
  obtain ⟨v', w', hr, h2, h3⟩ := run_zeros_own (P := P) w base t tn o.type e i z k kn 1 bytes ht htn hi hz hsize hby (by rw [hz1]; rfl) (by omega) v n xs hown m hm0
    (by rw [hrep]; intro u hu; rw [List.eq_of_mem_replicate hu]; exact hzo) h63 hbytes hbase'
  rw [hrep] at h2
  refine Lib.wpList_append_run w hgd s x t tn ho v (.int k m) hs hx v' w' hr (h v' w' h2 ?_ h3)
  exact hbel.grown h3 (Nat.le_trans hbase hbase') (fun k hk => Nat.le_trans hbase (hown.lt k hk).1)

/-- '[]T{}': a new, empty row. -/
theorem wpList_build0 {P : Program} {ops : Array Oper} {rest : List Oper} {o : Oper} {a : Act} {Q : Exit → Act → World → Prop} (w : World) (hgd : o.guard = none) (t : TypeId) (ho : o.op = .buildSlice t 0 #[])
    (e : TypeId) (i : TypeInfo) (ht : P.underlying t = some (.slice e)) (hi : P.info? e = some i)
    (h : wpList P ops Q rest (a.put o.dst (.slice (some ⟨w.heap.size, 0, none⟩) 0 0)) (w.alloc (.cells #[] e))) : wpList P ops Q (o :: rest) a w := by
  refine wpList_plain hgd fun K hK => ?_
  have hr : (Instr.buildSlice t 0 #[]).run P w = .ok (.slice (some ⟨w.heap.size, 0, none⟩) 0 0) (w.alloc (.cells #[] e)) := by
    simp [Instr.buildSlice, run_underlying ht, sizeOf, typeInfo, hi, Instr.fill, newRow]
    rw [show Array.range 0 = #[] from by apply Array.ext'; simp]
    simp
  unfold Oper.wp execOp
  simp only [ho, Array.map_empty, Sem.run_bind, Sem.run_pure, hr, Result.andThen_ok]
  exact hK _ _ h
end Go.Proofs.YtlaeflpddehipabDoor
end
section
set_option linter.unusedVariables false
namespace Go.Proofs.YtlaeflpddehipabDoor
open Go.RowKit

theorem owns_slice {w : World} {base e size n : Nat} {v : Value} {xs : List Value} (h : w.ownsRow base e size v n xs) : ∃ a c, v = .slice a n c := by
  rcases h.2 with ⟨rfl, rfl⟩ | ⟨g, cap, cur, rfl, _⟩
  · exact ⟨_, _, rfl⟩
  · exact ⟨_, _, rfl⟩

/-- '[]T{}' at a step of a region that draws its order. -/
theorem step_build0 {P : Program} {ops : Array Oper} {o : Oper} {a : Act} {w : World} {K : Act → World → Prop} {Q : Exit → Act → World → Prop} {E : Prop} (hgd : o.guard = none) (t : TypeId) (ho : o.op = .buildSlice t 0 #[])
    (e size : TypeId) (i : TypeInfo) (ht : P.underlying t = some (.slice e)) (hi : P.info? e = some i)
    (h : ∀ g w', Hid (w.heap.size = g) → Hid (w'.ownsRow g e size (.slice (some ⟨g, 0, none⟩) 0 0) 0 []) → Hid (Below w.heap.size w w') → Hid (w'.heap.size = g + 1) → K (a.put o.dst (.slice (some ⟨g, 0, none⟩) 0 0)) w') :
    if Region.wanted o (yielded ops a.tmps) = true then Oper.wp P o a w K Q else E := by
  have hw : Region.wanted o (yielded ops a.tmps) = true := by simp [Region.wanted, hgd]
  rw [if_pos hw]
  have hr : (Instr.buildSlice t 0 #[]).run P w = .ok (.slice (some ⟨w.heap.size, 0, none⟩) 0 0) (w.alloc (.cells #[] e)) := by
    simp [Instr.buildSlice, run_underlying ht, sizeOf, typeInfo, hi, Instr.fill, newRow]
    rw [show Array.range 0 = #[] from by apply Array.ext'; simp]
    simp
  unfold Oper.wp execOp
  simp only [ho, Array.map_empty, Sem.run_bind, Sem.run_pure, hr, Result.andThen_ok]
  refine h w.heap.size (w.alloc (.cells #[] e)) rfl ?_ ((Below.refl _ _).alloc (Nat.le_refl _) _) (by unfold Hid; simp)
  exact World.ownsRow_lit w #[] 0 (Nat.le_refl _) (Nat.zero_le _) (by simp)

/-- 'append(out, src...)' at a step of a region that draws its order: out is the call's own, src whatever slice whose cells are known (nil too). -/
theorem step_append_src {P : Program} {ops : Array Oper} {o : Oper} {a : Act} {w : World} {K : Act → World → Prop} {Q : Exit → Act → World → Prop} {E : Prop} (hgd : o.guard = none) (s x : Operand) (t : TypeId)
    (ho : o.op = .call { callee := .builtin .append, args := #[s, x], argTypes := #[t, t] })
    (base : Nat) (e : TypeId) (i : TypeInfo) (z : Value) (size bytes : Nat) (ht : P.underlying t = some (.slice e)) (hi : P.info? e = some i) (hz : i.zero = some z)
    (hsize : i.size = size) (hby : i.bytes = bytes) (hzs : z.cells.size = size) (hsz : 0 < size)
    (v : Value) (n : Nat) (xs : List Value) (hs : a.eval s = v) (hown : w.ownsRow base e size v n xs)
    (ad : Option Addr) (m c : Nat) (news : List Value) (hx : a.eval x = .slice ad m c) (hnil : ad = none → m = 0 ∧ c = 0) (hl : news.length = m * size) (hnews : ∀ ad', ad = some ad' → ∀ j u, news[j]? = some u → w.cell? (ad'.add j) = some u) (h1 : ∀ u ∈ news, u.oneCell' = true)
    (h63 : n + m ≤ maxLen) (hbytes : (n + m) * bytes ≤ 140737488355328) (hbase : base ≤ w.heap.size)
    (h : ∀ av cv w', Hid (w'.ownsRow base e size (.slice av (n + m) cv) (n + m) (xs ++ news)) → Hid (w.grownBy w' v.ownBlock) → K (a.put o.dst (.slice av (n + m) cv)) w') :
    if Region.wanted o (yielded ops a.tmps) = true then Oper.wp P o a w K Q else E := by
  have hw : Region.wanted o (yielded ops a.tmps) = true := by simp [Region.wanted, hgd]
  rw [if_pos hw]
  cases ad with
  | none =>
    obtain ⟨rfl, rfl⟩ := hnil rfl
    have hn : news = [] := List.eq_nil_of_length_eq_zero (by simpa using hl)
    subst hn
    have hrun := run_append_owned_none (P := P) (w := w) base t o.type e i size ht hi v n xs hown
    unfold Oper.wp
    simp [execOp, ho, resolve, invoke, builtin, hs, hx, hrun, Result.andThen]
    obtain ⟨av, cv, rfl⟩ := owns_slice hown
    exact h av cv w (by simpa [Hid] using hown) ⟨rfl, rfl, rfl, Nat.le_refl _, fun _ _ _ => rfl⟩
  | some ad' =>
    exact wp_append_own w s x t ho base e i z size bytes ht hi hz hsize hby hzs hsz v n xs hs hown ad' m c news hx hl (hnews ad' rfl) h1 h63 hbytes hbase fun v' w' h2 h3 _ => (by
      obtain ⟨av, cv, rfl⟩ := owns_slice h2
      exact h av cv w' h2 h3)

/-- 'append(out, src...)' at a step of a region that draws its order (guarded or not): out is the call's own, src whatever slice whose cells are known (nil too). -/
theorem step_append_src_w {P : Program} {ops : Array Oper} {o : Oper} {a : Act} {w : World} {K : Act → World → Prop} {Q : Exit → Act → World → Prop} {E : Prop} (hw : Region.wanted o (yielded ops a.tmps) = true) (s x : Operand) (t : TypeId)
    (ho : o.op = .call { callee := .builtin .append, args := #[s, x], argTypes := #[t, t] })
    (base : Nat) (e : TypeId) (i : TypeInfo) (z : Value) (size bytes : Nat) (ht : P.underlying t = some (.slice e)) (hi : P.info? e = some i) (hz : i.zero = some z)
    (hsize : i.size = size) (hby : i.bytes = bytes) (hzs : z.cells.size = size) (hsz : 0 < size)
    (v : Value) (n : Nat) (xs : List Value) (hs : a.eval s = v) (hown : w.ownsRow base e size v n xs)
    (ad : Option Addr) (m c : Nat) (news : List Value) (hx : a.eval x = .slice ad m c) (hnil : ad = none → m = 0 ∧ c = 0) (hl : news.length = m * size) (hnews : ∀ ad', ad = some ad' → ∀ j u, news[j]? = some u → w.cell? (ad'.add j) = some u) (h1 : ∀ u ∈ news, u.oneCell' = true)
    (h63 : n + m ≤ maxLen) (hbytes : (n + m) * bytes ≤ 140737488355328) (hbase : base ≤ w.heap.size)
    (h : ∀ av cv w', Hid (w'.ownsRow base e size (.slice av (n + m) cv) (n + m) (xs ++ news)) → Hid (w.grownBy w' v.ownBlock) → K (a.put o.dst (.slice av (n + m) cv)) w') :
    if Region.wanted o (yielded ops a.tmps) = true then Oper.wp P o a w K Q else E := by
  rw [if_pos hw]
  cases ad with
  | none =>
    obtain ⟨rfl, rfl⟩ := hnil rfl
    have hn : news = [] := List.eq_nil_of_length_eq_zero (by simpa using hl)
    subst hn
    have hrun := run_append_owned_none (P := P) (w := w) base t o.type e i size ht hi v n xs hown
    unfold Oper.wp
    simp [execOp, ho, resolve, invoke, builtin, hs, hx, hrun, Result.andThen]
    obtain ⟨av, cv, rfl⟩ := owns_slice hown
    exact h av cv w (by simpa [Hid] using hown) ⟨rfl, rfl, rfl, Nat.le_refl _, fun _ _ _ => rfl⟩
  | some ad' =>
    exact wp_append_own w s x t ho base e i z size bytes ht hi hz hsize hby hzs hsz v n xs hs hown ad' m c news hx hl (hnews ad' rfl) h1 h63 hbytes hbase fun v' w' h2 h3 _ => (by
      obtain ⟨av, cv, rfl⟩ := owns_slice h2
      exact h av cv w' h2 h3)

/-- An empty row just made, behind a draw; another block made behind it; ahead of it. -/
theorem empty_at (w : World) (e size : Nat) : (w.alloc (.cells #[] e)).drew.ownsRow w.heap.size e size (.slice (some ⟨w.heap.size, 0, none⟩) 0 0) 0 [] :=
  (World.ownsRow_lit w #[] 0 (Nat.le_refl _) (Nat.zero_le _) (by simp)).drew
theorem empty_then (w : World) (e size : Nat) (o : Obj) : ((w.alloc (.cells #[] e)).alloc o).drew.ownsRow w.heap.size e size (.slice (some ⟨w.heap.size, 0, none⟩) 0 0) 0 [] :=
  ((World.ownsRow_lit w #[] 0 (Nat.le_refl _) (Nat.zero_le _) (by simp)).alloc o).drew
theorem empty_behind (w : World) (e size : Nat) (o : Obj) : ((w.alloc o).alloc (.cells #[] e)).drew.ownsRow w.heap.size e size (.slice (some ⟨w.heap.size + 1, 0, none⟩) 0 0) 0 [] := by
  have h := (World.ownsRow_lit (base := w.heap.size) (e := e) (size := size) (w.alloc o) #[] 0 (by simp) (Nat.zero_le _) (by simp)).drew
  rw [World.size_alloc] at h
  exact h

/-- No zeros more: what was there. -/
theorem run_zeros_none {P : Program} {w : World} (t tn ty e : TypeId) (i : TypeInfo) (z : Value) (k kn : IntKind) (ht : P.underlying t = some (.slice e)) (htn : P.underlying tn = some (.int kn)) (hi : P.info? e = some i) (hz : i.zero = some z)
    (b : Option Addr) (sLen sCap : Nat) (h : sLen ≤ sCap) :
    (Builtin.append_ #[t, tn] ty #[.slice b sLen sCap, .int k 0]).run P w = .ok (.slice b sLen sCap) w := by
  have hw : IntKind.i64.wrap (0 : Int) = 0 := by rw [IntKind.wrap_i64]; omega
  cases b <;> simp [Builtin.append_, run_underlying ht, run_underlying htn, sizeOf, typeInfo, zeroValue, hi, hz, asInt, asIntOf, hw, h, storeCells]

/-- 'append(out, make([]T, m)...)' at a step of a region that draws its order: out is the call's own. -/
theorem step_zeros {P : Program} {ops : Array Oper} {o : Oper} {a : Act} {w : World} {K : Act → World → Prop} {Q : Exit → Act → World → Prop} {E : Prop} (hgd : Region.wanted o (yielded ops a.tmps) = true) (s x : Operand) (t tn : TypeId)
    (ho : o.op = .call { callee := .builtin .append, args := #[s, x], argTypes := #[t, tn] })
    (base : Nat) (e : TypeId) (i : TypeInfo) (z : Value) (k kn : IntKind) (bytes : Nat) (ht : P.underlying t = some (.slice e)) (htn : P.underlying tn = some (.int kn)) (hi : P.info? e = some i) (hz : i.zero = some z)
    (hsize : i.size = 1) (hby : i.bytes = bytes) (hz1 : z.cells = #[z]) (hzo : z.oneCell' = true)
    (v : Value) (n : Nat) (xs : List Value) (hs : a.eval s = v) (hown : w.ownsRow base e 1 v n xs)
    (m : Nat) (hx : a.eval x = .int k m)
    (h63 : n + m ≤ maxLen) (hbytes : (n + m) * bytes ≤ 140737488355328) (hbase : base ≤ w.heap.size)
    (h : ∀ av cv w', Hid (w'.ownsRow base e 1 (.slice av (n + m) cv) (n + m) (xs ++ List.replicate m z)) → Hid (w.grownBy w' v.ownBlock) → K (a.put o.dst (.slice av (n + m) cv)) w') :
    if Region.wanted o (yielded ops a.tmps) = true then Oper.wp P o a w K Q else E := by
  rw [if_pos hgd]
  have hrep := toList_zeroCells_one z m hz1
  have hrun : ∃ av cv w', (Builtin.append_ #[t, tn] o.type #[v, .int k m]).run P w = .ok (.slice av (n + m) cv) w' ∧ w'.ownsRow base e 1 (.slice av (n + m) cv) (n + m) (xs ++ List.replicate m z) ∧ w.grownBy w' v.ownBlock := by
    rcases Nat.eq_zero_or_pos m with rfl | hm0
    · obtain ⟨av, cv, rfl⟩ := owns_slice hown
      have hle : n ≤ cv := by
        rcases hown.2 with ⟨h, h0⟩ | ⟨g, cap, cur, h, _, _, h3, _⟩
        · cases h; omega
        · cases h; exact h3
      exact ⟨av, cv, w, run_zeros_none t tn o.type e i z k kn ht htn hi hz av n cv hle, by simpa using hown, ⟨rfl, rfl, rfl, Nat.le_refl _, fun _ _ _ => rfl⟩⟩
    · obtain ⟨v', w', hr, h2, h3⟩ := run_zeros_own (P := P) w base t tn o.type e i z k kn 1 bytes ht htn hi hz hsize hby (by rw [hz1]; rfl) (by omega) v n xs hown m hm0
        (by rw [hrep]; intro u hu; rw [List.eq_of_mem_replicate hu]; exact hzo) h63 hbytes hbase
      rw [hrep] at h2
      obtain ⟨av, cv, rfl⟩ := owns_slice h2
      exact ⟨av, cv, w', hr, h2, h3⟩
  obtain ⟨av, cv, w', hr, h2, h3⟩ := hrun
  unfold Oper.wp
  simp [execOp, ho, resolve, invoke, builtin, hs, hx, hr, Result.andThen]
  exact h av cv w' h2 h3
end Go.Proofs.YtlaeflpddehipabDoor
end
section
set_option linter.unusedVariables false
namespace Go.Proofs.YtlaeflpddehipabDoor
open Go.RowKit

/-- A net as a value. -/
def netVal (a : Option Addr) (c : Nat) (a' : Option Addr) (c' : Nat) (N : Net) : Array Value := #[.int .i64 N.given, .slice a N.nodes.length c, .slice a' N.outs.length c']
def Net.small (N : Net) : Bool := decide (N.nodes.length ≤ 60) && decide (N.outs.length ≤ 30) && decide (N.given ≤ 200)

/-- The rows that a net's value leads to. -/
structure NetRows (B : Nat) (w : World) (a : Option Addr) (c : Nat) (a' : Option Addr) (c' : Nat) (N : Net) : Prop where
  rn : Cells B w a (N.nodes.length * 4) (nodeCell N.nodes)
  ro : Cells B w a' N.outs.length (fun i => .int .i64 (N.outs.getD i 0))
  ln : N.nodes.length ≤ maxLen
  lo : N.outs.length ≤ maxLen

/-- A net that is laid into a new block. -/
theorem NetRows.box {B : Nat} {w w' : World} {a : Option Addr} {c : Nat} {a' : Option Addr} {c' : Nat} {N : Net} {T : TypeId} (h : NetRows B w a c a' c' N) (hB : B ≤ w.heap.size) {b : Nat} (hb : w'.heap[b]? = some (.cells (netVal a c a' c' N) T (0, 0)))
    (hbw : Below w.heap.size w w') (C : Nat) (hC : b < C) (hBC : B ≤ C) : NetIn C w' b a c a' c' N where
  g := by rw [cell_block hb]; rfl
  nodes := by rw [cell_block hb]; rfl
  outs := by rw [cell_block hb]; rfl
  rn := (h.rn.stay (hbw.mono hB)).mono hBC
  ro := (h.ro.stay (hbw.mono hB)).mono hBC
  hb := hC
  ln := h.ln
  lo := h.lo
end Go.Proofs.YtlaeflpddehipabDoor
end
section
set_option linter.unusedVariables false
namespace Go.Proofs.YtlaeflpddehipabDoor
open Go.RowKit

/-- What is turned twice: two nodes for each out. -/
def dbl (n : Nat) (outs : List Int) : Nat → List GN
  | 0 => []
  | i + 1 => dbl n outs i ++ [⟨8, outs.getD i 0, 0, 0⟩, ⟨8, ((n + 2 * i : Nat) : Int), 0, 0⟩]
def dblO (n : Nat) : Nat → List Int
  | 0 => []
  | i + 1 => dblO n i ++ [((n + 2 * i + 1 : Nat) : Int)]
theorem dbl_len (n : Nat) (outs : List Int) (i : Nat) : (dbl n outs i).length = 2 * i := by
  induction i with
  | zero => rfl
  | succ i ih => simp [dbl, ih]; omega
theorem dblO_len (n i : Nat) : (dblO n i).length = i := by
  induction i with
  | zero => rfl
  | succ i ih => simp [dblO, ih]
theorem dbl_get (n : Nat) (outs : List Int) (m i : Nat) (h : i < m) : (dbl n outs m)[2 * i]? = some ⟨8, outs.getD i 0, 0, 0⟩ ∧ (dbl n outs m)[2 * i + 1]? = some ⟨8, ((n + 2 * i : Nat) : Int), 0, 0⟩ := by
  induction m with
  | zero => omega
  | succ m ih =>
    unfold dbl
    by_cases e : i = m
    · subst e
      rw [List.getElem?_append_right (by rw [dbl_len]; omega), List.getElem?_append_right (by rw [dbl_len]; omega), dbl_len]
      rw [Nat.sub_self, show 2 * i + 1 - 2 * i = 1 by omega]
      exact ⟨rfl, rfl⟩
    · rw [List.getElem?_append_left (by rw [dbl_len]; omega), List.getElem?_append_left (by rw [dbl_len]; omega)]
      exact ih (by omega)
theorem dblO_get (n m i : Nat) (h : i < m) : (dblO n m)[i]? = some ((n + 2 * i + 1 : Nat) : Int) := by
  induction m with
  | zero => omega
  | succ m ih =>
    unfold dblO
    by_cases e : i = m
    · subst e
      rw [List.getElem?_append_right (by rw [dblO_len]; omega), dblO_len, Nat.sub_self]
      rfl
    · rw [List.getElem?_append_left (by rw [dblO_len]; omega)]
      exact ih (by omega)

def Net.twice (N : Net) : Net := ⟨N.given, N.nodes ++ dbl N.nodes.length N.outs N.outs.length, dblO N.nodes.length N.outs.length⟩
theorem Net.twice_nodes (N : Net) : N.twice.nodes.length = N.nodes.length + 2 * N.outs.length := by simp [Net.twice, dbl_len]
theorem Net.twice_outs (N : Net) : N.twice.outs.length = N.outs.length := dblO_len _ _
theorem Net.twice_old (N : Net) {k : Nat} (h : k < N.nodes.length) : N.twice.nodes.getD k GN.zero = N.nodes.getD k GN.zero := by
  simp [Net.twice, List.getD_eq_getElem?_getD, List.getElem?_append_left h]
theorem Net.twice_new0 (N : Net) {i : Nat} (h : i < N.outs.length) : N.twice.nodes.getD (N.nodes.length + 2 * i) GN.zero = ⟨8, N.outs.getD i 0, 0, 0⟩ := by
  simp only [Net.twice, List.getD_eq_getElem?_getD]
  rw [List.getElem?_append_right (by omega), Nat.add_sub_cancel_left, (dbl_get _ _ _ _ h).1]
  simp [List.getD_eq_getElem?_getD]
theorem Net.twice_new1 (N : Net) {i : Nat} (h : i < N.outs.length) : N.twice.nodes.getD (N.nodes.length + 2 * i + 1) GN.zero = ⟨8, ((N.nodes.length + 2 * i : Nat) : Int), 0, 0⟩ := by
  simp only [Net.twice, List.getD_eq_getElem?_getD]
  rw [List.getElem?_append_right (by omega), show N.nodes.length + 2 * i + 1 - N.nodes.length = 2 * i + 1 by omega, (dbl_get _ _ _ _ h).2]
  rfl
theorem Net.twice_out (N : Net) {i : Nat} (h : i < N.outs.length) : N.twice.outs.getD i 0 = ((N.nodes.length + 2 * i + 1 : Nat) : Int) := by
  simp only [Net.twice, List.getD_eq_getElem?_getD]
  rw [dblO_get _ _ _ h]
  rfl

theorem Net.valsTo_get (N : Net) (regs given : List Bool) (k j : Nat) (h : j < k) : (N.valsTo regs given k).getD j false = valOf (N.nodes.getD j GN.zero) (regs.getD j false) given (N.valsTo regs given j) := by
  induction k with
  | zero => omega
  | succ k ih =>
    rw [show N.valsTo regs given (k + 1) = N.valsTo regs given k ++ [valOf (N.nodes.getD k GN.zero) (regs.getD k false) given (N.valsTo regs given k)] from rfl]
    by_cases e : j = k
    · subst e
      rw [List.getD_eq_getElem?_getD, List.getElem?_append_right (by rw [Net.valsTo_len]; omega), Net.valsTo_len, Nat.sub_self]
      rfl
    · rw [List.getD_eq_getElem?_getD, List.getElem?_append_left (by rw [Net.valsTo_len]; omega), ← List.getD_eq_getElem?_getD]
      exact ih (by omega)
theorem Net.valsTo_same (N : Net) (regs given : List Bool) (k k' j : Nat) (h : j < k) (h' : j < k') : (N.valsTo regs given k).getD j false = (N.valsTo regs given k').getD j false := by
  rw [N.valsTo_get _ _ _ _ h, N.valsTo_get _ _ _ _ h']

/-- The registers of the one are the first of the other's. -/
structure TwRegs (N : Net) (rn rm : List Bool) : Prop where
  ln : rn.length = N.nodes.length
  lm : rm.length = N.twice.nodes.length
  same : ∀ k, k < N.nodes.length → rm.getD k false = rn.getD k false

theorem TwRegs.vals {N : Net} {rn rm : List Bool} (h : TwRegs N rn rm) (given : List Bool) (k : Nat) (hk : k ≤ N.nodes.length) : N.twice.valsTo rm given k = N.valsTo rn given k := by
  induction k with
  | zero => rfl
  | succ k ih =>
    unfold Net.valsTo
    rw [ih (by omega), N.twice_old (by omega), h.same k (by omega)]

theorem TwRegs.outs {N : Net} {rn rm : List Bool} (h : TwRegs N rn rm) (hr : N.right = true) (given : List Bool) : N.twice.outVals rm given = N.outVals rn given := by
  apply List.ext_getElem?
  intro i
  by_cases hi : i < N.outs.length
  · have ho := Net.out_at hr hi
    have hv : (N.twice.vals rm given).getD (N.nodes.length + 2 * i + 1) false = (N.vals rn given).getD (N.outs.getD i 0).toNat false := by
      have hl := N.twice_nodes
      unfold Net.vals
      rw [N.twice.valsTo_get _ _ _ _ (by omega), N.twice_new1 hi]
      have e1 : (((N.nodes.length + 2 * i : Nat) : Int)).toNat = N.nodes.length + 2 * i := by omega
      simp only [valOf]
      rw [e1, N.twice.valsTo_get _ _ _ _ (by omega), N.twice_new0 hi]
      simp only [valOf]
      rw [N.twice.valsTo_same rm given (N.nodes.length + 2 * i) N.nodes.length _ (by omega) (by omega), h.vals given _ (Nat.le_refl _)]
      simp
    have e1 : N.twice.outs[i]? = some ((N.nodes.length + 2 * i + 1 : Nat) : Int) := dblO_get _ _ _ hi
    have e2 : N.outs[i]? = some (N.outs.getD i 0) := by simp [List.getD_eq_getElem?_getD, hi]
    unfold Net.outVals
    rw [List.getElem?_map, List.getElem?_map, e1, e2, Option.map_some, Option.map_some, Int.toNat_natCast, hv]
  · rw [List.getElem?_eq_none (by simp [Net.outVals, N.twice_outs]; omega), List.getElem?_eq_none (by simp [Net.outVals]; omega)]

theorem TwRegs.next {N : Net} {rn rm : List Bool} (h : TwRegs N rn rm) (hr : N.right = true) (given : List Bool) : TwRegs N (N.regs' rn given) (N.twice.regs' rm given) where
  ln := (N.regsTo_len _ _ _).trans h.ln
  lm := (N.twice.regsTo_len _ _ _).trans h.lm
  same := by
    intro k hk
    have hl := N.twice_nodes
    unfold Net.regs' Net.regsTo
    have hkn : k < rn.length := by rw [h.ln]; exact hk
    have hkm : k < rm.length := by rw [h.lm]; omega
    simp only [List.getD_eq_getElem?_getD, List.getElem?_map, List.getElem?_range hkn, List.getElem?_range hkm, Option.map_some, Option.getD_some]
    have hs := h.same k hk
    simp only [List.getD_eq_getElem?_getD] at hs
    have ho := N.twice_old hk
    simp only [List.getD_eq_getElem?_getD] at ho
    rw [ho, hs]
    by_cases h4 : (N.nodes[k]?.getD GN.zero).op = 4
    · rw [if_pos ⟨by omega, h4⟩, if_pos ⟨hk, h4⟩]
      have hn := Net.right_at hr hk
      have hn' : nodeRight N.given N.nodes.length k (N.nodes.getD k GN.zero) = true := hn
      simp only [List.getD_eq_getElem?_getD] at hn'
      simp only [nodeRight, h4] at hn'
      simp at hn'
      have := N.twice.valsTo_same rm given N.twice.nodes.length N.nodes.length (N.nodes[k]?.getD GN.zero).next.toNat (by omega) (by omega)
      rw [h.vals given _ (Nat.le_refl _)] at this
      simp only [List.getD_eq_getElem?_getD] at this
      exact this
    · rw [if_neg (fun h => h4 h.2), if_neg (fun h => h4 h.2)]

theorem TwRegs.first (N : Net) : TwRegs N N.first N.twice.first where
  ln := by simp [Net.first]
  lm := by simp [Net.first]
  same := by
    intro k hk
    simp only [Net.first, Net.twice, List.map_append, List.getD_eq_getElem?_getD]
    rw [List.getElem?_append_left (by simpa using hk)]

theorem Net.twice_right {N : Net} (hr : N.right = true) (h1 : N.nodes.length ≤ 60) (h2 : N.outs.length ≤ 30) : N.twice.right = true := by
  have hs := Net.right_sizes hr
  have hl := N.twice_nodes
  have hlo := N.twice_outs
  unfold Net.right
  simp only [Bool.and_eq_true]
  refine ⟨⟨?_, ?_⟩, ?_⟩
  · unfold Net.sizes
    rw [decide_eq_true_eq]
    have : N.twice.given = N.given := rfl
    omega
  · unfold Net.rightTo
    rw [List.all_eq_true]
    intro k hk
    rw [List.mem_range] at hk
    by_cases e : k < N.nodes.length
    · have hn := Net.right_at hr e
      rw [N.twice_old e]
      have hg : N.twice.given = N.given := rfl
      rw [hg]
      unfold nodeRight at hn ⊢
      split at hn
      · rename_i h; rw [if_pos h]
      · rename_i h; rw [if_neg h]
        split at hn
        · rename_i h; rw [if_pos h]; exact hn
        · rename_i h; rw [if_neg h]
          split at hn
          · rename_i h
            rw [if_pos h]
            rw [decide_eq_true_eq] at hn ⊢
            omega
          · rename_i h; rw [if_neg h]; exact hn
    · obtain ⟨j, hj⟩ : ∃ j, k = N.nodes.length + j := ⟨k - N.nodes.length, by omega⟩
      rcases Nat.mod_two_eq_zero_or_one j with hm | hm
      · have ho := Net.out_at hr (k := j / 2) (by omega)
        rw [show k = N.nodes.length + 2 * (j / 2) by omega, N.twice_new0 (by omega)]
        simp [nodeRight, aheadB]
        simp only [List.getD_eq_getElem?_getD] at ho
        omega
      · rw [show k = N.nodes.length + 2 * (j / 2) + 1 by omega, N.twice_new1 (by omega)]
        simp [nodeRight, aheadB]
        omega
  · unfold Net.outsTo
    rw [List.all_eq_true]
    intro i hi
    rw [List.mem_range, hlo] at hi
    rw [N.twice_out hi]
    simp
    omega

theorem dbl_gates (n : Nat) (outs : List Int) (i : Nat) : ((dbl n outs i).filter GN.isGate).length = 2 * i := by
  induction i with
  | zero => rfl
  | succ i ih =>
    unfold dbl
    rw [List.filter_append, List.length_append, ih]
    have e : [(⟨8, outs.getD i 0, 0, 0⟩ : GN), ⟨8, ((n + 2 * i : Nat) : Int), 0, 0⟩].filter GN.isGate = [⟨8, outs.getD i 0, 0, 0⟩, ⟨8, ((n + 2 * i : Nat) : Int), 0, 0⟩] := by
      simp [List.filter_cons, GN.isGate]
    rw [e]
    simp
    omega
theorem Net.twice_gates (N : Net) : N.twice.gates = N.gates + 2 * N.outs.length := by
  unfold Net.gates gatesTo
  rw [List.take_length, List.take_length]
  simp only [Net.twice]
  rw [List.filter_append, List.length_append, dbl_gates]

/-! ### what is given beyond is not seen -/
theorem valOf_given (x : GN) (reg : Bool) (g g' pre : List Bool) (h : ∀ j, g.getD j false = g'.getD j false) : valOf x reg g pre = valOf x reg g' pre := by
  unfold valOf
  rw [h]
theorem Net.valsTo_given (N : Net) (regs g g' : List Bool) (h : ∀ j, g.getD j false = g'.getD j false) (k : Nat) : N.valsTo regs g k = N.valsTo regs g' k := by
  induction k with
  | zero => rfl
  | succ k ih =>
    unfold Net.valsTo
    rw [ih, valOf_given _ _ g g' _ h]
theorem pad_given (g : List Bool) (m : Nat) (j : Nat) : (g ++ List.replicate m false).getD j false = g.getD j false := by
  simp only [List.getD_eq_getElem?_getD, List.getElem?_append]
  split
  · rfl
  · rename_i h
    rw [List.getElem?_eq_none (l := g) (by omega)]
    simp [List.getElem?_replicate]
    split <;> rfl
theorem Net.outVals_pad (N : Net) (regs g : List Bool) (m : Nat) : N.outVals regs (g ++ List.replicate m false) = N.outVals regs g := by
  unfold Net.outVals Net.vals
  rw [N.valsTo_given _ _ _ (pad_given g m)]
theorem Net.regs_pad (N : Net) (regs g : List Bool) (m : Nat) : N.regs' regs (g ++ List.replicate m false) = N.regs' regs g := by
  unfold Net.regs' Net.vals
  rw [N.valsTo_given _ _ _ (pad_given g m)]
end Go.Proofs.YtlaeflpddehipabDoor
end
section
set_option linter.unusedVariables false
namespace Go.Proofs.YtlaeflpddehipabDoor
open Go.RowKit
attribute [local go_sem ↓] Go.wp_at_zero Go.wp_at_succ

theorem Tryd.infoNode : (Tryd.prog.info? 81).map (fun i => (i.zero, i.size, i.bytes)) = some (some (.agg #[.int .i64 0, .int .i64 0, .int .i64 0, .int .i64 0]), 4, 32) := by kernel_rfl
theorem Tryd.infoInt : (Tryd.prog.info? 3).map (fun i => (i.zero, i.size, i.bytes)) = some (some (.int .i64 0), 1, 8) := by kernel_rfl

/-- The cells of nodes, one behind the other. -/
def nodeVals (l : List GN) : List Value := (List.range (l.length * 4)).map (nodeCell l)
theorem nodeVals_len (l : List GN) : (nodeVals l).length = l.length * 4 := by simp [nodeVals]
theorem nodeVals_one (l : List GN) : ∀ u ∈ nodeVals l, u.oneCell' = true := by
  intro u hu
  obtain ⟨j, _, rfl⟩ := List.mem_map.1 hu
  unfold nodeCell GN.cell
  split <;> rfl
theorem nodeVals_get (l : List GN) (j : Nat) (hj : j < l.length * 4) : (nodeVals l)[j]? = some (nodeCell l j) := by simp [nodeVals, hj]

theorem keep2 {w3 w' : World} {b0 : Nat} {x y : Value} (hlt : b0 < w3.heap.size) (h0 : w3.cell? ⟨b0, 0, none⟩ = some x) (h1 : w3.cell? ⟨b0, 1, none⟩ = some y) (h : Below w3.heap.size w3 w') :
    w'.cell? ⟨b0, 0, none⟩ = some x ∧ w'.cell? ⟨b0, 1, none⟩ = some y ∧ Below w3.heap.size w3 w' :=
  ⟨(h.cell (p := ⟨b0, 0, none⟩) hlt).trans h0, (h.cell (p := ⟨b0, 1, none⟩) hlt).trans h1, h⟩

/-- A net in the making: its nodes and its outs lie in rows of their own. -/
def TwAt (w3 : World) (N : Net) (bm : Nat) (nodes : List GN) (outs : List Int) (wx : World) : Prop :=
  ∃ ad cn ao co, w3.heap.size ≤ bm ∧ wx.heap[bm]? = some (.cells #[.int .i64 N.given, .slice ad nodes.length cn, .slice ao outs.length co] 50 (0, 0)) ∧
    wx.ownsRow w3.heap.size 81 4 (.slice ad nodes.length cn) nodes.length (nodeVals nodes) ∧ wx.ownsRow w3.heap.size 3 1 (.slice ao outs.length co) outs.length (outs.map (.int .i64)) ∧
    (∀ g, ad = some g → g.block ≠ bm) ∧ (∀ g, ao = some g → g.block ≠ bm) ∧ (∀ g g', ad = some g → ao = some g' → g.block ≠ g'.block) ∧ Below w3.heap.size w3 wx

theorem owns_keep {w w' : World} {base e size n : Nat} {v : Value} {xs : List Value} (h : w.ownsRow base e size v n xs) (hk : ∀ k, v.ownBlock = some k → w'.heap[k]? = w.heap[k]?) : w'.ownsRow base e size v n xs := by
  obtain ⟨hl, h⟩ := h
  rcases h with h | ⟨g, cap, cur, rfl, h1, h2, h3⟩
  · exact ⟨hl, .inl h⟩
  · exact ⟨hl, .inr ⟨g, cap, cur, rfl, h1, (hk g rfl).trans h2, h3⟩⟩
/-- A row of one type does not lie in a block of another. -/
theorem owns_apart {w : World} {base e size n m c b T : Nat} {ad : Option Addr} {xs : List Value} {cs : Array Value} (h : w.ownsRow base e size (.slice ad m c) n xs) (hb : w.heap[b]? = some (.cells cs T (0, 0))) (hne : e ≠ T) : ∀ g, ad = some g → g.block ≠ b := by
  rintro g rfl e'
  rcases h.2 with ⟨h, _⟩ | ⟨g', cap, cur, h, _, h2, _⟩
  · cases h
  · cases h
    rw [← e', h2] at hb
    cases hb
    exact hne rfl
theorem owns_apart2 {w : World} {base e size n m c base' e' size' n' m' c' : Nat} {ad ad' : Option Addr} {xs xs' : List Value} (h : w.ownsRow base e size (.slice ad m c) n xs) (h' : w.ownsRow base' e' size' (.slice ad' m' c') n' xs') (hne : e ≠ e') :
    ∀ g g', ad = some g → ad' = some g' → g.block ≠ g'.block := by
  rintro g g' rfl rfl
  rcases h'.2 with ⟨h1, _⟩ | ⟨g1, cap, cur, h1, _, h2, _⟩
  · cases h1
  · cases h1
    exact owns_apart h h2 hne g rfl
theorem set_box {w : World} {b : Nat} {cs : Array Value} {T : Nat} (h : w.heap[b]? = some (.cells cs T (0, 0))) (j : Nat) (v : Value) : (w.setCell ⟨b, j, none⟩ v).heap[b]? = some (.cells (cs.setIfInBounds j v) T (0, 0)) := by
  simp only [World.setCell, Array.getElem?_modify, if_true, h]
  rfl
theorem TwAt.begin {w3 wx : World} {N : Net} {bm : Nat} {ad : Option Addr} {cn : Nat} (hbm : w3.heap.size ≤ bm) (hm : wx.heap[bm]? = some (.cells #[.int .i64 N.given, .slice ad N.nodes.length cn, .slice none 0 0] 50 (0, 0)))
    (ho : wx.ownsRow w3.heap.size 81 4 (.slice ad (0 + N.nodes.length) cn) (0 + N.nodes.length) ([] ++ nodeVals N.nodes)) (hb : Below w3.heap.size w3 wx) : TwAt w3 N bm N.nodes [] wx := by
  have ho' : wx.ownsRow w3.heap.size 81 4 (.slice ad N.nodes.length cn) N.nodes.length (nodeVals N.nodes) := by simpa using ho
  exact ⟨ad, cn, none, 0, hbm, hm, ho', ⟨rfl, .inl ⟨rfl, rfl⟩⟩, owns_apart ho' hm (by decide), (fun g h => by cases h), (fun g g' _ h => by cases h), hb⟩
theorem TwAt.way1 {w3 wb : World} {N : Net} {av : Option Addr} {cv : Nat} (ho : Hid (wb.ownsRow w3.heap.size 81 4 (.slice av (0 + N.nodes.length) cv) (0 + N.nodes.length) ([] ++ nodeVals N.nodes))) (hb : Below w3.heap.size w3 wb) :
    TwAt w3 N wb.heap.size N.nodes [] (wb.alloc (.cells #[.int .i64 N.given, .slice av N.nodes.length cv, .slice none 0 0] 50)) :=
  TwAt.begin hb.size (alloc_at _ _) (ho.out.alloc _) (hb.alloc hb.size _)
theorem TwAt.way2 {w3 wb : World} {N : Net} {bm : Nat} {av : Option Addr} {cv : Nat} (ho : Hid (wb.ownsRow w3.heap.size 81 4 (.slice av (0 + N.nodes.length) cv) (0 + N.nodes.length) ([] ++ nodeVals N.nodes))) (hb : Below w3.heap.size w3 wb) (hbm : w3.heap.size ≤ bm)
    (hm : Hid (wb.heap[bm]? = some (.cells #[.int .i64 0, .slice none 0 0, .slice none 0 0] 50 (0, 0)))) :
    TwAt w3 N bm N.nodes [] (((wb.setCell ⟨bm, 0, none⟩ (.int .i64 N.given)).setCell ⟨bm, 1, none⟩ (.slice av N.nodes.length cv)).setCell ⟨bm, 2, none⟩ (.slice none 0 0)) := by
  have hne := owns_apart ho.out hm.out (by decide)
  refine TwAt.begin hbm (set_box (set_box (set_box hm.out 0 _) 1 _) 2 _) (owns_keep ho.out fun k hk => ?_) (((hb.setCell hbm _).setCell hbm _).setCell hbm _)
  have : k ≠ bm := by
    cases av with
    | none => simp [Value.ownBlock] at hk
    | some g => have := hne g rfl; simp [Value.ownBlock] at hk; omega
  rw [heap_setCell_other _ _ _ _ (by exact this), heap_setCell_other _ _ _ _ (by exact this), heap_setCell_other _ _ _ _ (by exact this)]

theorem grown_box {w wb : World} {v : Value} (h : Hid (w.grownBy wb v.ownBlock)) (k : Nat) (o : Obj) (hne : v.ownBlock ≠ some k) (hk : w.heap[k]? = some o) : wb.heap[k]? = some o := by
  have hlt : k < w.heap.size := by
    rcases Nat.lt_or_ge k w.heap.size with h' | h'
    · exact h'
    · rw [Array.getElem?_eq_none h'] at hk; cases hk
  exact (h.out.block k hlt (fun e => hne e.symm)).trans hk
theorem beside_row {wr wb : World} {o : Obj} {base e size n l cn co : Nat} {ad ao : Option Addr} {xs : List Value} (h : Hid ((wr.alloc o).drew.grownBy wb (Value.slice ad l cn).ownBlock)) (hO : wr.ownsRow base e size (.slice ao n co) n xs) (hd : ∀ g g', ad = some g → ao = some g' → g.block ≠ g'.block) : wb.ownsRow base e size (.slice ao n co) n xs := by
  refine owns_keep hO fun k hk => ?_
  have hlt := (hO.lt k hk).2
  refine (h.out.block k (Nat.lt_of_lt_of_le hlt (by simp)) ?_).trans (Below.heap_alloc _ _ _ hlt)
  cases ao with
  | none => simp [Value.ownBlock] at hk
  | some g' =>
    cases ad with
    | none => simp [Value.ownBlock]
    | some g =>
      have := hd g g' rfl rfl
      simp [Value.ownBlock] at hk ⊢
      omega
theorem beside_row0 {wr wb : World} {base e size n l cn co : Nat} {ad ao : Option Addr} {xs : List Value} (h : wr.grownBy wb (Value.slice ad l cn).ownBlock) (hO : wr.ownsRow base e size (.slice ao n co) n xs) (hd : ∀ g g', ad = some g → ao = some g' → g.block ≠ g'.block) : wb.ownsRow base e size (.slice ao n co) n xs := by
  refine owns_keep hO fun k hk => ?_
  refine h.block k (hO.lt k hk).2 ?_
  cases ao with
  | none => simp [Value.ownBlock] at hk
  | some g' =>
    cases ad with
    | none => simp [Value.ownBlock]
    | some g =>
      have := hd g g' rfl rfl
      simp [Value.ownBlock] at hk ⊢
      omega
theorem beside_below {w3 wr wb : World} {o : Obj} {v : Value} {e size n : Nat} {xs : List Value} (h : Hid ((wr.alloc o).drew.grownBy wb v.ownBlock)) (hb : Below w3.heap.size w3 wr) (hv : wr.ownsRow w3.heap.size e size v n xs) : Hid (Below w3.heap.size w3 wb) :=
  Below.grown (hb.alloc hb.size o).drew h.out (Nat.le_trans hb.size (by simp)) (fun k hk => (hv.lt k hk).1)
theorem box2_first (w : World) (A B : Obj) : ((w.alloc A).alloc B).drew.heap[w.heap.size]? = some A :=
  (Below.heap_alloc (w.alloc A) B w.heap.size (by simp)).trans (alloc_at w A)
theorem box2_second (w : World) (A B : Obj) : ((w.alloc A).alloc B).drew.heap[w.heap.size + 1]? = some B := by
  have h := alloc_at (w.alloc A) B
  rw [World.size_alloc] at h
  exact h

theorem nodeVals_two (L : List GN) (x y : GN) : nodeVals (L ++ [x, y]) = nodeVals L ++ (x.cells.toList ++ y.cells.toList) := by
  apply List.ext_getElem?
  intro j
  by_cases h1 : j < L.length * 4
  · rw [List.getElem?_append_left (by rw [nodeVals_len]; exact h1), nodeVals_get _ _ h1, nodeVals_get _ _ (by simp; omega)]
    have : j / 4 < L.length := by omega
    simp [nodeCell, List.getD_eq_getElem?_getD, List.getElem?_append_left this]
  · rw [List.getElem?_append_right (by rw [nodeVals_len]; omega), nodeVals_len]
    by_cases h2 : j < L.length * 4 + 8
    · rw [nodeVals_get _ _ (by simp; omega)]
      obtain ⟨k, hk⟩ : ∃ k, j = L.length * 4 + k := ⟨j - L.length * 4, by omega⟩
      have hk8 : k < 8 := by omega
      subst hk
      rw [Nat.add_sub_cancel_left]
      have e1 : (L.length * 4 + k) / 4 = L.length + k / 4 := by omega
      have e2 : (L.length * 4 + k) % 4 = k % 4 := by omega
      unfold nodeCell
      rw [e1, e2]
      have e3 : (L ++ [x, y]).getD (L.length + k / 4) GN.zero = [x, y].getD (k / 4) GN.zero := by
        simp [List.getD_eq_getElem?_getD, List.getElem?_append_right]
      rw [e3]
      match k, hk8 with
      | 0, _ => rfl
      | 1, _ => rfl
      | 2, _ => rfl
      | 3, _ => rfl
      | 4, _ => rfl
      | 5, _ => rfl
      | 6, _ => rfl
      | 7, _ => rfl
    · rw [List.getElem?_eq_none (by rw [nodeVals_len]; simp; omega), List.getElem?_eq_none (by simp [GN.cells]; omega)]

theorem TwAt.below {w3 wx : World} {N : Net} {bm : Nat} {L : List GN} {O : List Int} (h : TwAt w3 N bm L O wx) : Below w3.heap.size w3 wx := h.choose_spec.choose_spec.choose_spec.choose_spec.2.2.2.2.2.2.2

theorem Cells.congr {B : Nat} {w : World} {a : Option Addr} {m : Nat} {f g : Nat → Value} (h : Cells B w a m f) (e : ∀ j, j < m → f j = g j) : Cells B w a m g := by
  rcases h with h | ⟨b, off, rfl, hB, hc⟩
  · exact .inl h
  · exact .inr ⟨b, off, rfl, hB, fun j hj => (hc j hj).trans (by rw [e j hj])⟩

theorem TwAt.netIn {w3 wx : World} {N : Net} {bm : Nat} (h : TwAt w3 N bm (N.nodes ++ dbl N.nodes.length N.outs N.outs.length) (dblO N.nodes.length N.outs.length) wx) (h1 : N.nodes.length ≤ 60) (h2 : N.outs.length ≤ 30) :
    ∃ ad cn ao co, NetIn wx.heap.size wx bm ad cn ao co N.twice := by
  obtain ⟨ad, cn, ao, co, hbm, hm, hN, hO, hd1, hd2, hd3, hbe⟩ := h
  have hl := N.twice_nodes
  have hlo := N.twice_outs
  obtain ⟨a1, c1, e1, _, _, hc1⟩ := Cells.of_owns hN
  obtain ⟨a2, c2, e2, _, _, hc2⟩ := Cells.of_owns hO
  cases e1
  cases e2
  have hlt : bm < wx.heap.size := by
    rcases Nat.lt_or_ge bm wx.heap.size with h' | h'
    · exact h'
    · rw [Array.getElem?_eq_none h'] at hm; cases hm
  refine ⟨ad, cn, ao, co, by rw [cell_block hm]; rfl, by rw [cell_block hm]; rfl, by rw [cell_block hm]; rfl, hc1.congr fun j hj => ?_, ?_, hlt, by unfold maxLen; omega, by unfold maxLen; omega⟩
  · rw [List.getD_eq_getElem?_getD, nodeVals_get _ _ hj]
    rfl
  · have hc2' := hc2
    rw [Nat.mul_one] at hc2'
    exact hc2'.congr fun j hj => by
      simp only [List.getD_eq_getElem?_getD, List.getElem?_map]
      rw [show N.twice.outs = dblO N.nodes.length N.outs.length from rfl, List.getElem?_eq_getElem (by exact hj)]
      rfl

theorem TwAt.addN {w3 wb : World} {N : Net} {bm : Nat} {L : List GN} {O : List Int} {x y : GN} {ad ao av : Option Addr} {cn co cv : Nat}
    (hbm : w3.heap.size ≤ bm) (hm : wb.heap[bm]? = some (.cells #[.int .i64 N.given, .slice ad L.length cn, .slice ao O.length co] 50 (0, 0)))
    (hN : wb.ownsRow w3.heap.size 81 4 (.slice av (L.length + 2) cv) (L.length + 2) (nodeVals L ++ (x.cells.toList ++ y.cells.toList)))
    (hO : wb.ownsRow w3.heap.size 3 1 (.slice ao O.length co) O.length (O.map (.int .i64))) (hb : Below w3.heap.size w3 wb) :
    TwAt w3 N bm (L ++ [x, y]) O (wb.setCell ⟨bm, 1, none⟩ (.slice av (L.length + 2) cv)) := by
  have hne := owns_apart hN hm (by decide)
  have hne' := owns_apart hO hm (by decide)
  rw [← nodeVals_two] at hN
  refine ⟨av, cv, ao, co, hbm, ?_, ?_, ?_, hne, hne', owns_apart2 hN hO (by decide), hb.setCell hbm _⟩
  · rw [set_box hm 1]; simp
  · rw [show (L ++ [x, y]).length = L.length + 2 by simp]
    exact owns_keep hN fun k hk => heap_setCell_other _ _ _ _ (by cases av with | none => simp [Value.ownBlock] at hk | some g => have := hne g rfl; simp [Value.ownBlock] at hk; simp; omega)
  · exact owns_keep hO fun k hk => heap_setCell_other _ _ _ _ (by cases ao with | none => simp [Value.ownBlock] at hk | some g => have := hne' g rfl; simp [Value.ownBlock] at hk; simp; omega)
theorem TwAt.addO {w3 wb : World} {N : Net} {bm : Nat} {L : List GN} {O : List Int} {x : Int} {ad ao av : Option Addr} {cn co cv : Nat}
    (hbm : w3.heap.size ≤ bm) (hm : wb.heap[bm]? = some (.cells #[.int .i64 N.given, .slice ad L.length cn, .slice ao O.length co] 50 (0, 0)))
    (hN : wb.ownsRow w3.heap.size 81 4 (.slice ad L.length cn) L.length (nodeVals L))
    (hO : wb.ownsRow w3.heap.size 3 1 (.slice av (O.length + 1) cv) (O.length + 1) (O.map (.int .i64) ++ [.int .i64 x])) (hb : Below w3.heap.size w3 wb) :
    TwAt w3 N bm L (O ++ [x]) (wb.setCell ⟨bm, 2, none⟩ (.slice av (O.length + 1) cv)) := by
  have hne := owns_apart hN hm (by decide)
  have hne' := owns_apart hO hm (by decide)
  refine ⟨ad, cn, av, cv, hbm, ?_, ?_, ?_, hne, hne', owns_apart2 hN hO (by decide), hb.setCell hbm _⟩
  · rw [set_box hm 2]; simp
  · exact owns_keep hN fun k hk => heap_setCell_other _ _ _ _ (by cases ad with | none => simp [Value.ownBlock] at hk | some g => have := hne g rfl; simp [Value.ownBlock] at hk; simp; omega)
  · rw [show (O ++ [x]).length = O.length + 1 by simp, List.map_append]
    exact owns_keep hO fun k hk => heap_setCell_other _ _ _ _ (by cases av with | none => simp [Value.ownBlock] at hk | some g => have := hne' g rfl; simp [Value.ownBlock] at hk; simp; omega)

theorem wrap_low (n : Int) (h0 : 0 ≤ n) (h1 : n < 9223372036854775808) : IntKind.i64.wrap n = n := by
  obtain ⟨x, rfl⟩ := Int.eq_ofNat_of_zero_le h0
  exact wrap_nat x (by omega)
/-- Rows of bits that are given. -/
structure GivenRows (B : Nat) (w : World) (ag : Option Addr) (gs : List (List Bool)) (A : Nat → Option Addr) (C : Nat → Nat) : Prop where
  heads : Cells B w ag gs.length (fun i => .slice (A i) (gs.getD i []).length (C i))
  rows : ∀ i, i < gs.length → Cells B w (A i) (gs.getD i []).length (fun j => .bool ((gs.getD i []).getD j false))
  lens : ∀ i, (gs.getD i []).length ≤ maxLen
  nils : ∀ i, i < gs.length → A i = none → (gs.getD i []).length = 0 ∧ C i = 0
theorem GivenRows.stay {B : Nat} {w w' : World} {ag : Option Addr} {gs : List (List Bool)} {A : Nat → Option Addr} {C : Nat → Nat} (h : GivenRows B w ag gs A C) (hb : Below B w w') : GivenRows B w' ag gs A C :=
  ⟨h.heads.stay hb, fun i hi => (h.rows i hi).stay hb, h.lens, h.nils⟩

theorem bits_of {B : Nat} {w : World} {ai : Option Addr} {g : List Bool} {r : Nat} (h : Cells B w ai g.length (fun j => .bool (g.getD j false))) (hl : g.length ≤ maxLen) (hB : B ≤ w.heap.size) (hr : B ≤ r) : Bits w ai g r := by
  refine ⟨h.mono hB, ?_, hl⟩
  rintro bg off rfl hpos
  rcases h with h | ⟨b, off', e, hb, _⟩
  · omega
  · cases e
    omega

theorem keep1 {w3 w' : World} {b0 k : Nat} {x : Value} (hlt : b0 < w3.heap.size) (h0 : w3.cell? ⟨b0, k, none⟩ = some x) (h : Below w3.heap.size w3 w') : w'.cell? ⟨b0, k, none⟩ = some x ∧ Below w3.heap.size w3 w' :=
  ⟨(h.cell (p := ⟨b0, k, none⟩) hlt).trans h0, h⟩

theorem gates_at {B : Nat} {w w' : World} {b : Nat} {a : Option Addr} {c : Nat} {a' : Option Addr} {c' : Nat} {N : Net} {s r : Nat} {regs : List Bool} (h : SimOk B w b a c a' c' N s r regs) (hb : Below w.heap.size w w') :
    Calls Tryd.prog 19 #[.pointer (some ⟨b, 0, none⟩)] w' fun e w'' => e = .returned (.int .i64 (N.gates : Nat)) ∧ Below w.heap.size w w'' := by
  refine (Gates_any B b a c a' c' N w' (h.net.stay (hb.mono h.bw)) (Nat.le_trans h.bw hb.size)).mono ?_
  rintro e w'' ⟨rfl, h2⟩
  exact ⟨rfl, hb.trans (h2.mono hb.size)⟩
end Go.Proofs.YtlaeflpddehipabDoor
end
section
set_option linter.unusedVariables false
namespace Go.Proofs.YtlaeflpddehipabDoor
open Go.RowKit

theorem Bits.stay {w w' : World} {ag : Option Addr} {given : List Bool} {r : Nat} (h : Bits w ag given r) (hb : Below w.heap.size w w') : Bits w' ag given r :=
  ⟨(h.cells.stay hb).mono hb.size, h.apart, h.len⟩

theorem sim_at {B : Nat} {w w' : World} {b : Nat} {a : Option Addr} {c : Nat} {a' : Option Addr} {c' : Nat} {N : Net} {s r : Nat} {regs : List Bool} {ag : Option Addr} {n cg : Nat} {given : List Bool}
    (h : SimOk B w b a c a' c' N s r regs) (hg : Bits w ag given r) (hn : n = given.length) (hb : Below w.heap.size w w') :
    Calls Tryd.prog 21 #[.pointer (some ⟨s, 0, none⟩), .slice ag n cg] w' (StepPost N regs given r w') := by
  subst hn
  exact sim_step B b a c a' c' N w' s r regs ag cg given (h.stay hb) (hg.stay hb)

theorem bools_at {l : List Bool} {n j : Nat} (hn : l.length = n) (hj : j < n) : (l.map Value.bool).getD j undef = .bool (l.getD j false) := by
  simp only [List.getD_eq_getElem?_getD, List.getElem?_map]
  rw [List.getElem?_eq_getElem (by omega)]
  rfl
theorem owns_len {w : World} {base e n : Nat} {v : Value} {xs : List Value} (h : w.ownsRow base e 1 v n xs) : xs.length = n := by
  have := h.1
  omega
/-- A row of bits of the call's own, as cells. -/
theorem bits_cells {w : World} {base n c : Nat} {ag : Option Addr} {l : List Bool} (h : w.ownsRow base 4 1 (.slice ag n c) n (l.map .bool)) : Cells w.heap.size w ag n (fun j => .bool (l.getD j false)) := by
  obtain ⟨a, c', e, _, _, hc⟩ := Cells.of_owns h
  cases e
  rw [Nat.mul_one] at hc
  have hl := owns_len h
  rw [List.length_map] at hl
  exact hc.congr fun j hj => bools_at hl hj
theorem bits_owns {w : World} {base n c : Nat} {ag : Option Addr} {l : List Bool} {r : Nat} (h : w.ownsRow base 4 1 (.slice ag n c) n (l.map .bool)) (hr : r < base) (hm : l.length ≤ maxLen) : Bits w ag l r := by
  have hl := owns_len h
  rw [List.length_map] at hl
  refine ⟨?_, ?_, hm⟩
  · rw [hl]; exact bits_cells h
  · rintro bg off rfl _ rfl
    have := (h.lt bg rfl).1
    omega

theorem equal_at {w w' : World} {b1 b2 n1 n2 : Nat} {v1 v2 : Value} {l m : List Bool} {r : Bool} (h1 : w.ownsRow b1 4 1 v1 n1 (l.map .bool)) (h2 : w.ownsRow b2 4 1 v2 n2 (m.map .bool)) (hm : n1 ≤ maxLen) (hr : decide (l = m) = r) (hb : Below w.heap.size w w') :
    Calls Tryd.prog 22 #[v1, v2] w' fun e w'' => e = .returned (.bool r) ∧ Below w'.heap.size w' w'' := by
  obtain ⟨a, c, rfl⟩ := owns_slice h1
  obtain ⟨a', c', rfl⟩ := owns_slice h2
  have e1 := owns_len h1
  have e2 := owns_len h2
  rw [List.length_map] at e1 e2
  subst hr
  exact (equal_bool w.heap.size a a' n1 c n2 c' l m w' e1.symm e2.symm hm ((bits_cells h1).stay hb) ((bits_cells h2).stay hb)).mono fun e w'' h => h.below

theorem owns_grown {w w' : World} {base e size n r : Nat} {v : Value} {xs : List Value} (h : w.ownsRow base e size v n xs) (hg : w.grownBy w' (some r)) (hr : r < base) : w'.ownsRow base e size v n xs :=
  owns_keep h fun k hk => hg.block k (h.lt k hk).2 (by have := (h.lt k hk).1; simp; omega)

/-- An empty row that was just made. -/
theorem empty_own {B : Nat} (w : World) (e : Nat) (hB : B ≤ w.heap.size) : (w.alloc (.cells #[] e)).ownsRow B e 1 (.slice (some ⟨w.heap.size, 0, none⟩) 0 0) 0 [] :=
  ownsRow_base (World.ownsRow_lit w #[] 0 (Nat.le_refl _) (Nat.zero_le _) (by simp)) hB

theorem bools_one (l : List Bool) : ∀ u ∈ l.map Value.bool, u.oneCell' = true := by
  intro u hu
  obtain ⟨b, _, rfl⟩ := List.mem_map.1 hu
  rfl
theorem own_pad {w : World} {base e n G : Nat} {v : Value} {l : List Bool} (h : w.ownsRow base e 1 v n (([] ++ l.map .bool) ++ List.replicate G (.bool false))) : w.ownsRow base e 1 v n ((l ++ List.replicate G false).map .bool) := by
  rw [List.map_append, List.map_replicate]
  exact h

theorem own_pad0 {w : World} {base e n G c : Nat} {av : Option Addr} {l : List Bool} (h : w.ownsRow base e 1 (.slice av (0 + n + G) c) (0 + n + G) (([] ++ l.map .bool) ++ List.replicate G (.bool false))) : w.ownsRow base e 1 (.slice av (n + G) c) (n + G) ((l ++ List.replicate G false).map .bool) := by
  have h' := own_pad h
  rw [Nat.zero_add] at h'
  exact h'
theorem keep_two {w3 w' : World} {b1 k1 b2 k2 : Nat} {x y : Value} (l1 : b1 < w3.heap.size) (c1 : w3.cell? ⟨b1, k1, none⟩ = some x) (l2 : b2 < w3.heap.size) (c2 : w3.cell? ⟨b2, k2, none⟩ = some y) (h : Below w3.heap.size w3 w') :
    w'.cell? ⟨b1, k1, none⟩ = some x ∧ w'.cell? ⟨b2, k2, none⟩ = some y ∧ Below w3.heap.size w3 w' :=
  ⟨(h.cell (p := ⟨b1, k1, none⟩) l1).trans c1, (h.cell (p := ⟨b2, k2, none⟩) l2).trans c2, h⟩
end Go.Proofs.YtlaeflpddehipabDoor
end

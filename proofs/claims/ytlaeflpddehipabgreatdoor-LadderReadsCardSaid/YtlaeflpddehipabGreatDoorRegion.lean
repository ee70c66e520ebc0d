/- Laws for single steps of regions that draw their order: an empty row made, a slice appended. -/
import Derived.Test.YtlaeflpddehipabGreatDoorZeros
import Derived.Laws.AppendOwnNone
import Derived.Deep.RegionHeld3
import Derived.Deep.AppendLies
import Derived.Deep.DrawnRows
set_option linter.unusedVariables false
namespace Go.Proofs.YtlaeflpddehipabGreatDoor
open Go.RowKit

theorem owns_slice {w : World} {base e size n : Nat} {v : Value} {xs : List Value} (h : w.ownsRow base e size v n xs) : ∃ a c, v = .slice a n c := by
  rcases h.2 with ⟨rfl, rfl⟩ | ⟨g, cap, cur, rfl, _⟩
  · exact ⟨_, _, rfl⟩
  · exact ⟨_, _, rfl⟩

/-- '[]T{}' at a step of a region that draws its order. -/
theorem step_build0 {P : Program} {ops : Array Oper} {o : Oper} {a : Act} {w : World} {K : Act → World → Prop} {Q : Exit → Act → World → Prop} {E : Prop} (hgd : o.guard = none) (t : TypeId) (ho : o.op = .buildSlice t 0 #[])
    (e size : TypeId) (i : TypeInfo) (ht : P.underlying t = some (.slice e)) (hi : P.info? e = some i)
    (h : ∀ g w', Hid (w.heap.size = g) → Hid (w'.ownsRow g e size (.slice (some ⟨g, 0, none⟩) 0 0) 0 []) → Hid (Below w.heap.size w w') → Hid (w'.heap.size = g + 1) → K (a.put o.dst (.slice (some ⟨g, 0, none⟩) 0 0)) w') :
    if Region.wanted o (yielded ops a.tmps) = true then Oper.wp P o a w K Q else E := by
  have hw : Region.wanted o (yielded ops a.tmps) = true := by simp [Region.wanted, hgd]
  rw [if_pos hw]
  have hr : (Instr.buildSlice t 0 #[]).run P w = .ok (.slice (some ⟨w.heap.size, 0, none⟩) 0 0) (w.alloc (.cells #[] e)) := by
    simp [Instr.buildSlice, run_underlying ht, sizeOf, typeInfo, hi, Instr.fill, newRow]
    rw [show Array.range 0 = #[] from by apply Array.ext'; simp]
    simp
  unfold Oper.wp execOp
  simp only [ho, Array.map_empty, Sem.run_bind, Sem.run_pure, hr, Result.andThen_ok]
  refine h w.heap.size (w.alloc (.cells #[] e)) rfl ?_ ((Below.refl _ _).alloc (Nat.le_refl _) _) (by unfold Hid; simp)
  exact World.ownsRow_lit w #[] 0 (Nat.le_refl _) (Nat.zero_le _) (by simp)

/-- 'append(out, src...)' at a step of a region that draws its order: out is the call's own, src whatever slice whose cells are known (nil too). -/
theorem step_append_src {P : Program} {ops : Array Oper} {o : Oper} {a : Act} {w : World} {K : Act → World → Prop} {Q : Exit → Act → World → Prop} {E : Prop} (hgd : o.guard = none) (s x : Operand) (t : TypeId)
    (ho : o.op = .call { callee := .builtin .append, args := #[s, x], argTypes := #[t, t] })
    (base : Nat) (e : TypeId) (i : TypeInfo) (z : Value) (size bytes : Nat) (ht : P.underlying t = some (.slice e)) (hi : P.info? e = some i) (hz : i.zero = some z)
    (hsize : i.size = size) (hby : i.bytes = bytes) (hzs : z.cells.size = size) (hsz : 0 < size)
    (v : Value) (n : Nat) (xs : List Value) (hs : a.eval s = v) (hown : w.ownsRow base e size v n xs)
    (ad : Option Addr) (m c : Nat) (news : List Value) (hx : a.eval x = .slice ad m c) (hnil : ad = none → m = 0 ∧ c = 0) (hl : news.length = m * size) (hnews : ∀ ad', ad = some ad' → ∀ j u, news[j]? = some u → w.cell? (ad'.add j) = some u) (h1 : ∀ u ∈ news, u.oneCell' = true)
    (h63 : n + m ≤ maxLen) (hbytes : (n + m) * bytes ≤ 140737488355328) (hbase : base ≤ w.heap.size)
    (h : ∀ av cv w', Hid (w'.ownsRow base e size (.slice av (n + m) cv) (n + m) (xs ++ news)) → Hid (w.grownBy w' v.ownBlock) → K (a.put o.dst (.slice av (n + m) cv)) w') :
    if Region.wanted o (yielded ops a.tmps) = true then Oper.wp P o a w K Q else E := by
  have hw : Region.wanted o (yielded ops a.tmps) = true := by simp [Region.wanted, hgd]
  rw [if_pos hw]
  cases ad with
  | none =>
    obtain ⟨rfl, rfl⟩ := hnil rfl
    have hn : news = [] := List.eq_nil_of_length_eq_zero (by simpa using hl)
    subst hn
    have hrun := run_append_owned_none (P := P) (w := w) base t o.type e i size ht hi v n xs hown
    unfold Oper.wp
    simp [execOp, ho, resolve, invoke, builtin, hs, hx, hrun, Result.andThen]
    obtain ⟨av, cv, rfl⟩ := owns_slice hown
    exact h av cv w (by simpa [Hid] using hown) ⟨rfl, rfl, rfl, Nat.le_refl _, fun _ _ _ => rfl⟩
  | some ad' =>
    exact wp_append_own w s x t ho base e i z size bytes ht hi hz hsize hby hzs hsz v n xs hs hown ad' m c news hx hl (hnews ad' rfl) h1 h63 hbytes hbase fun v' w' h2 h3 _ => (by
      obtain ⟨av, cv, rfl⟩ := owns_slice h2
      exact h av cv w' h2 h3)

/-- 'append(out, src...)' at a step of a region that draws its order (guarded or not): out is the call's own, src whatever slice whose cells are known (nil too). -/
theorem step_append_src_w {P : Program} {ops : Array Oper} {o : Oper} {a : Act} {w : World} {K : Act → World → Prop} {Q : Exit → Act → World → Prop} {E : Prop} (hw : Region.wanted o (yielded ops a.tmps) = true) (s x : Operand) (t : TypeId)
    (ho : o.op = .call { callee := .builtin .append, args := #[s, x], argTypes := #[t, t] })
    (base : Nat) (e : TypeId) (i : TypeInfo) (z : Value) (size bytes : Nat) (ht : P.underlying t = some (.slice e)) (hi : P.info? e = some i) (hz : i.zero = some z)
    (hsize : i.size = size) (hby : i.bytes = bytes) (hzs : z.cells.size = size) (hsz : 0 < size)
    (v : Value) (n : Nat) (xs : List Value) (hs : a.eval s = v) (hown : w.ownsRow base e size v n xs)
    (ad : Option Addr) (m c : Nat) (news : List Value) (hx : a.eval x = .slice ad m c) (hnil : ad = none → m = 0 ∧ c = 0) (hl : news.length = m * size) (hnews : ∀ ad', ad = some ad' → ∀ j u, news[j]? = some u → w.cell? (ad'.add j) = some u) (h1 : ∀ u ∈ news, u.oneCell' = true)
    (h63 : n + m ≤ maxLen) (hbytes : (n + m) * bytes ≤ 140737488355328) (hbase : base ≤ w.heap.size)
    (h : ∀ av cv w', Hid (w'.ownsRow base e size (.slice av (n + m) cv) (n + m) (xs ++ news)) → Hid (w.grownBy w' v.ownBlock) → K (a.put o.dst (.slice av (n + m) cv)) w') :
    if Region.wanted o (yielded ops a.tmps) = true then Oper.wp P o a w K Q else E := by
  rw [if_pos hw]
  cases ad with
  | none =>
    obtain ⟨rfl, rfl⟩ := hnil rfl
    have hn : news = [] := List.eq_nil_of_length_eq_zero (by simpa using hl)
    subst hn
    have hrun := run_append_owned_none (P := P) (w := w) base t o.type e i size ht hi v n xs hown
    unfold Oper.wp
    simp [execOp, ho, resolve, invoke, builtin, hs, hx, hrun, Result.andThen]
    obtain ⟨av, cv, rfl⟩ := owns_slice hown
    exact h av cv w (by simpa [Hid] using hown) ⟨rfl, rfl, rfl, Nat.le_refl _, fun _ _ _ => rfl⟩
  | some ad' =>
    exact wp_append_own w s x t ho base e i z size bytes ht hi hz hsize hby hzs hsz v n xs hs hown ad' m c news hx hl (hnews ad' rfl) h1 h63 hbytes hbase fun v' w' h2 h3 _ => (by
      obtain ⟨av, cv, rfl⟩ := owns_slice h2
      exact h av cv w' h2 h3)

/-- An empty row just made, behind a draw; another block made behind it; ahead of it. -/
theorem empty_at (w : World) (e size : Nat) : (w.alloc (.cells #[] e)).drew.ownsRow w.heap.size e size (.slice (some ⟨w.heap.size, 0, none⟩) 0 0) 0 [] :=
  (World.ownsRow_lit w #[] 0 (Nat.le_refl _) (Nat.zero_le _) (by simp)).drew
theorem empty_then (w : World) (e size : Nat) (o : Obj) : ((w.alloc (.cells #[] e)).alloc o).drew.ownsRow w.heap.size e size (.slice (some ⟨w.heap.size, 0, none⟩) 0 0) 0 [] :=
  ((World.ownsRow_lit w #[] 0 (Nat.le_refl _) (Nat.zero_le _) (by simp)).alloc o).drew
theorem empty_behind (w : World) (e size : Nat) (o : Obj) : ((w.alloc o).alloc (.cells #[] e)).drew.ownsRow w.heap.size e size (.slice (some ⟨w.heap.size + 1, 0, none⟩) 0 0) 0 [] := by
  have h := (World.ownsRow_lit (base := w.heap.size) (e := e) (size := size) (w.alloc o) #[] 0 (by simp) (Nat.zero_le _) (by simp)).drew
  rw [World.size_alloc] at h
  exact h

/-- No zeros more: what was there. -/
theorem run_zeros_none {P : Program} {w : World} (t tn ty e : TypeId) (i : TypeInfo) (z : Value) (k kn : IntKind) (ht : P.underlying t = some (.slice e)) (htn : P.underlying tn = some (.int kn)) (hi : P.info? e = some i) (hz : i.zero = some z)
    (b : Option Addr) (sLen sCap : Nat) (h : sLen ≤ sCap) :
    (Builtin.append_ #[t, tn] ty #[.slice b sLen sCap, .int k 0]).run P w = .ok (.slice b sLen sCap) w := by
  have hw : IntKind.i64.wrap (0 : Int) = 0 := by rw [IntKind.wrap_i64]; omega
  cases b <;> simp [Builtin.append_, run_underlying ht, run_underlying htn, sizeOf, typeInfo, zeroValue, hi, hz, asInt, asIntOf, hw, h, storeCells]

/-- 'append(out, make([]T, m)...)' at a step of a region that draws its order: out is the call's own. -/
theorem step_zeros {P : Program} {ops : Array Oper} {o : Oper} {a : Act} {w : World} {K : Act → World → Prop} {Q : Exit → Act → World → Prop} {E : Prop} (hgd : Region.wanted o (yielded ops a.tmps) = true) (s x : Operand) (t tn : TypeId)
    (ho : o.op = .call { callee := .builtin .append, args := #[s, x], argTypes := #[t, tn] })
    (base : Nat) (e : TypeId) (i : TypeInfo) (z : Value) (k kn : IntKind) (bytes : Nat) (ht : P.underlying t = some (.slice e)) (htn : P.underlying tn = some (.int kn)) (hi : P.info? e = some i) (hz : i.zero = some z)
    (hsize : i.size = 1) (hby : i.bytes = bytes) (hz1 : z.cells = #[z]) (hzo : z.oneCell' = true)
    (v : Value) (n : Nat) (xs : List Value) (hs : a.eval s = v) (hown : w.ownsRow base e 1 v n xs)
    (m : Nat) (hx : a.eval x = .int k m)
    (h63 : n + m ≤ maxLen) (hbytes : (n + m) * bytes ≤ 140737488355328) (hbase : base ≤ w.heap.size)
    (h : ∀ av cv w', Hid (w'.ownsRow base e 1 (.slice av (n + m) cv) (n + m) (xs ++ List.replicate m z)) → Hid (w.grownBy w' v.ownBlock) → K (a.put o.dst (.slice av (n + m) cv)) w') :
    if Region.wanted o (yielded ops a.tmps) = true then Oper.wp P o a w K Q else E := by
  rw [if_pos hgd]
  have hrep := toList_zeroCells_one z m hz1
  have hrun : ∃ av cv w', (Builtin.append_ #[t, tn] o.type #[v, .int k m]).run P w = .ok (.slice av (n + m) cv) w' ∧ w'.ownsRow base e 1 (.slice av (n + m) cv) (n + m) (xs ++ List.replicate m z) ∧ w.grownBy w' v.ownBlock := by
    rcases Nat.eq_zero_or_pos m with rfl | hm0
    · obtain ⟨av, cv, rfl⟩ := owns_slice hown
      have hle : n ≤ cv := by
        rcases hown.2 with ⟨h, h0⟩ | ⟨g, cap, cur, h, _, _, h3, _⟩
        · cases h; omega
        · cases h; exact h3
      exact ⟨av, cv, w, run_zeros_none t tn o.type e i z k kn ht htn hi hz av n cv hle, by simpa using hown, ⟨rfl, rfl, rfl, Nat.le_refl _, fun _ _ _ => rfl⟩⟩
    · obtain ⟨v', w', hr, h2, h3⟩ := run_zeros_own (P := P) w base t tn o.type e i z k kn 1 bytes ht htn hi hz hsize hby (by rw [hz1]; rfl) (by omega) v n xs hown m hm0
        (by rw [hrep]; intro u hu; rw [List.eq_of_mem_replicate hu]; exact hzo) h63 hbytes hbase
      rw [hrep] at h2
      obtain ⟨av, cv, rfl⟩ := owns_slice h2
      exact ⟨av, cv, w', hr, h2, h3⟩
  obtain ⟨av, cv, w', hr, h2, h3⟩ := hrun
  unfold Oper.wp
  simp [execOp, ho, resolve, invoke, builtin, hs, hx, hr, Result.andThen]
  exact h av cv w' h2 h3
end Go.Proofs.YtlaeflpddehipabGreatDoor

/- Words and small lemmas for all walks of this seat: what a slice in memory reads as, that what was there stays. -/
import Derived.Test.YtlaeflpddehipabGreatDoorRows
import Derived.WalkKit
import Derived.WalkSpells
import Derived.WalkLawsBesides
import Derived.WalkSmall
set_option linter.unusedVariables false
namespace Go.Proofs.YtlaeflpddehipabGreatDoor
open Go.RowKit

theorem hid {p : Prop} (h : p) : Hid p := h
theorem ret_int {k : IntKind} {a b : Int} (h : a = b) : Ending.returned (.int k a) = .returned (.int k b) := by rw [h]
theorem ret_bool {a b : Bool} (h : a = b) : Ending.returned (.bool a) = .returned (.bool b) := by rw [h]
theorem val_int {k : IntKind} {a b : Int} (h : a = b) : Value.int k a = .int k b := by rw [h]

/-- true comes back; what was there stays. -/
def Yes (w : World) (e : Ending) (w' : World) : Prop := e = .returned (.bool true) ∧ Below w.heap.size w w'

/-- m cells from address a on, in a block below B, hold f 0, f 1, .. -/
def Cells (B : Nat) (w : World) (a : Option Addr) (m : Nat) (f : Nat → Value) : Prop :=
  m = 0 ∨ ∃ b off, a = some ⟨b, off, none⟩ ∧ b < B ∧ ∀ j, j < m → w.cell? ⟨b, off + j, none⟩ = some (f j)

theorem Cells.stay {B : Nat} {w w' : World} {a : Option Addr} {m : Nat} {f : Nat → Value} (h : Cells B w a m f) (hb : Below B w w') : Cells B w' a m f := by
  rcases h with h | ⟨b, off, rfl, hB, hc⟩
  · exact .inl h
  · exact .inr ⟨b, off, rfl, hB, fun j hj => (hb.cell (p := ⟨b, off + j, none⟩) hB).trans (hc j hj)⟩

theorem Cells.mono {B B' : Nat} {w : World} {a : Option Addr} {m : Nat} {f : Nat → Value} (h : Cells B w a m f) (hB : B ≤ B') : Cells B' w a m f := by
  rcases h with h | ⟨b, off, rfl, hB', hc⟩
  · exact .inl h
  · exact .inr ⟨b, off, rfl, by omega, hc⟩

theorem Cells.at {B : Nat} {w : World} {a : Option Addr} {m : Nat} {f : Nat → Value} (h : Cells B w a m f) (hm : 0 < m) : ∃ b off, a = some ⟨b, off, none⟩ ∧ b < B ∧ ∀ j, j < m → w.cell? ⟨b, off + j, none⟩ = some (f j) := by
  rcases h with h | h
  · omega
  · exact h

/-- The call hands back a slice of its own: n elements, the cells xs; what was there stays. -/
def Gives (E size : Nat) (w : World) (n : Nat) (xs : List Value) (e : Ending) (w' : World) : Prop :=
  ∃ v, e = .returned v ∧ w'.ownsRow w.heap.size E size v n xs ∧ Below w.heap.size w w'

theorem ownsRow_below {w w' : World} {base E size n : Nat} {v : Value} {xs : List Value} (h : w.ownsRow base E size v n xs) (hb : Below w.heap.size w w') : w'.ownsRow base E size v n xs := by
  obtain ⟨h1, h2⟩ := h
  refine ⟨h1, ?_⟩
  rcases h2 with h2 | ⟨g, cap, cur, hv, hg, hh, r⟩
  · exact .inl h2
  · refine .inr ⟨g, cap, cur, hv, hg, ?_, r⟩
    rw [hb.block g ?_]
    · exact hh
    · rcases Nat.lt_or_ge g w.heap.size with h | h
      · exact h
      · simp [Array.getElem?_eq_none h] at hh

/-- An owned row as cells. -/
theorem Cells.of_owns {w : World} {base E size n : Nat} {v : Value} {xs : List Value} (h : w.ownsRow base E size v n xs) :
    ∃ a c, v = .slice a n c ∧ n ≤ c ∧ c ≤ maxLen ∧ Cells w.heap.size w a (n * size) (fun j => xs.getD j undef) := by
  obtain ⟨h1, h2⟩ := h
  rcases h2 with ⟨rfl, rfl⟩ | ⟨g, cap, cur, hv, hg, hh, hn, hm, hs, ht⟩
  · exact ⟨none, 0, rfl, Nat.le_refl _, Nat.zero_le _, .inl (by omega)⟩
  · have hlt : g < w.heap.size := by
      rcases Nat.lt_or_ge g w.heap.size with h | h
      · exact h
      · simp [Array.getElem?_eq_none h] at hh
    refine ⟨_, cap, hv, hn, hm, .inr ⟨g, 0, rfl, hlt, fun j hj => ?_⟩⟩
    have hj' : j < cur.size := by rw [hs]; exact Nat.lt_of_lt_of_le hj (Nat.mul_le_mul_right _ hn)
    have e : xs.getD j undef = cur[j] := by
      rw [← ht, List.getD_eq_getElem?_getD, List.getElem?_take, if_pos hj]
      simp [hj']
    show w.cell? ⟨g, 0 + j, none⟩ = some (xs.getD j undef)
    rw [e]; simp [World.cell?, hh, hj']

theorem cell_new (w : World) (cs : Array Value) (e : TypeId) (j : Nat) : (w.alloc (.cells cs e)).cell? ⟨w.heap.size, j, none⟩ = cs[j]? := by
  have h : (w.alloc (.cells cs e)).heap[w.heap.size]? = some (.cells cs e) := by
    show (w.heap.push _)[_]? = _
    simp
  unfold World.cell?
  rw [h]
  rfl

theorem Addr.add_at (b j : Nat) : (⟨b, 0, none⟩ : Addr).add j = ⟨b, j, none⟩ := by
  unfold Addr.add
  split
  · rename_i h; subst h; rfl
  · simp

/-- 'out = append(out, x)' (or x, y, ..): out is the call's own (or nil); what is appended lies in a new block. What was there, but for out's own block, stays. -/
theorem wpList_push {P : Program} {ops : Array Oper} {rest : List Oper} {o : Oper} {a : Act} {Q : Exit → Act → World → Prop} (W w0 wr : World) (hgd : o.guard = none) (s x : Operand) (t : TypeId)
    (ho : o.op = .call { callee := .builtin .append, args := #[s, x], argTypes := #[t, t] })
    (e : TypeId) (i : TypeInfo) (z : Value) (size bytes : Nat) (ht : P.underlying t = some (.slice e)) (hi : P.info? e = some i) (hz : i.zero = some z)
    (hsize : i.size = size) (hby : i.bytes = bytes) (hzs : z.cells.size = size) (hsz : 0 < size)
    (base : Nat) (v : Value) (n : Nat) (xs : List Value) (hs : a.eval s = v) (hown : wr.ownsRow base e size v n xs)
    (m c : Nat) (cs : Array Value) (hW : W = wr.alloc (.cells cs e)) (hx : a.eval x = .slice (some ⟨wr.heap.size, 0, none⟩) m c) (hl : cs.size = m * size) (h1 : cs.toList.all Value.oneCell' = true)
    (h63 : n + m ≤ maxLen) (hbytes : (n + m) * bytes ≤ 140737488355328) (hbel : Below w0.heap.size w0 wr) (hbase : w0.heap.size ≤ base) (hbase' : base ≤ wr.heap.size)
    (h : ∀ v' w', w'.ownsRow base e size v' (n + m) (xs ++ cs.toList) → Below w0.heap.size w0 w' → wr.grownBy w' v.ownBlock → (v' = .slice none 0 0 ↔ v = .slice none 0 0 ∧ m = 0) → wpList P ops Q rest (a.put o.dst v') w') :
    wpList P ops Q (o :: rest) a W := by
  subst hW
  have hal : wr.heap.size ≤ (wr.alloc (.cells cs e)).heap.size := by simp
  have hbig : base ≤ (wr.alloc (.cells cs e)).heap.size := Nat.le_trans hbase' hal
  refine wpList_append_own _ hgd s x t ho base e i z size bytes ht hi hz hsize hby hzs hsz v n xs hs (hown.alloc _) ⟨wr.heap.size, 0, none⟩ m c cs.toList hx (by simpa using hl) ?_ (fun u hu => List.all_eq_true.1 h1 u hu) h63 hbytes hbig ?_
  · intro j u hj
    rw [Addr.add_at, cell_new]
    simpa using hj
  · intro v' w' ho' hg hn
    have hblt : ∀ k, v.ownBlock = some k → w0.heap.size ≤ k := fun k hk => Nat.le_trans hbase (hown.lt k hk).1
    refine h v' w' ho' ((hbel.alloc hbel.size _).grown hg (Nat.le_trans hbase hbig) hblt) ?_ hn
    exact ⟨hg.os, hg.tape, hg.output, Nat.le_trans hal hg.size, fun k hk hne => (hg.block k (Nat.lt_of_lt_of_le hk hal) hne).trans (Below.heap_alloc _ _ _ hk)⟩

/-- A new block, behind whatever left the old ones as they were. -/
theorem box_block {w w1 : World} {cs : Array Value} {T : TypeId} (hb : Below (w.alloc (.cells cs T)).heap.size (w.alloc (.cells cs T)) w1) : w1.heap[w.heap.size]? = some (.cells cs T (0, 0)) := by
  rw [hb.block w.heap.size (by simp)]
  show (w.heap.push _)[_]? = _
  simp
theorem cell_block {w : World} {b : Nat} {cs : Array Value} {T : TypeId} (h : w.heap[b]? = some (.cells cs T (0, 0))) (j : Nat) : w.cell? ⟨b, j, none⟩ = cs[j]? := by
  unfold World.cell?
  rw [h]
  rfl
theorem free_block {w : World} {b : Nat} {cs : Array Value} {T : TypeId} (h : w.heap[b]? = some (.cells cs T (0, 0))) (j : Nat) : w.frozen? ⟨b, j, none⟩ = false := by
  unfold World.frozen?
  rw [h]
  simp
theorem box_below {w w1 : World} {o : Obj} (hb : Below (w.alloc o).heap.size (w.alloc o) w1) : Below w.heap.size w w1 :=
  ((Below.refl _ _).alloc (Nat.le_refl _) o).trans (hb.mono (by simp))
theorem box_size {w w1 : World} {o : Obj} (hb : Below (w.alloc o).heap.size (w.alloc o) w1) : w.heap.size < w1.heap.size := by
  have := hb.size
  simp at this
  omega

theorem cell_set {w : World} {b j : Nat} {u : Value} (v : Value) (h : w.cell? ⟨b, j, none⟩ = some u) : (w.setCell ⟨b, j, none⟩ v).cell? ⟨b, j, none⟩ = some v := by
  unfold World.cell? at *
  have hb : b < w.heap.size := by
    rcases Nat.lt_or_ge b w.heap.size with h' | h'
    · exact h'
    · simp [Array.getElem?_eq_none h'] at h
  simp only [World.setCell, Array.getElem?_modify, if_true]
  cases he : w.heap[b]? with
  | none => simp [he] at h
  | some o =>
    rw [he] at h
    cases o with
    | cells c e fr =>
      have hj : j < c.size := by
        rcases Nat.lt_or_ge j c.size with h' | h'
        · exact h'
        · simp [Array.getElem?_eq_none h'] at h
      simp [hj]
    | _ => simp at h

/-- A variable of the call's own that was set, behind draws and a call that leaves what was there as it was. -/
theorem set_then {w w1 w3 : World} {b n : Nat} {u v : Value} (hw : w.heap.size ≤ b) (hb1 : Below w.heap.size w w1) (hc : w1.cell? ⟨b, 0, none⟩ = some u)
    (hb : Below ((w1.setCell ⟨b, 0, none⟩ v).drewN n).heap.size ((w1.setCell ⟨b, 0, none⟩ v).drewN n) w3) : w3.cell? ⟨b, 0, none⟩ = some v ∧ Below w.heap.size w w3 ∧ w1.heap.size ≤ w3.heap.size := by
  have hsz : (w1.setCell ⟨b, 0, none⟩ v).heap.size = w1.heap.size := by simp [World.setCell]
  have hsz' : ((w1.setCell ⟨b, 0, none⟩ v).drewN n).heap.size = w1.heap.size := hsz
  have hlt : b < w1.heap.size := by
    rcases Nat.lt_or_ge b w1.heap.size with h | h
    · exact h
    · simp [World.cell?, Array.getElem?_eq_none h] at hc
  refine ⟨(hb.cell (p := ⟨b, 0, none⟩) (by rw [hsz']; exact hlt)).trans (cell_set v hc), ?_, by have := hb.size; rw [hsz'] at this; exact this⟩
  have h2 : Below w.heap.size w ((w1.setCell ⟨b, 0, none⟩ v).drewN n) := below_drewN (hb1.setCell hw v) n
  exact h2.trans (hb.mono (by rw [hsz']; exact hb1.size))

/-- What is appended out of a slice that reads as known cells. -/
theorem Cells.news {B : Nat} {w : World} {ad : Addr} {m : Nat} {f : Nat → Value} {xs : List Value} (h : Cells B w (some ad) m f) (hx : xs.length = m) (hf : ∀ j, j < m → xs[j]? = some (f j)) : ∀ j u, xs[j]? = some u → w.cell? (ad.add j) = some u := by
  intro j u hj
  have hlt : j < m := by
    rcases Nat.lt_or_ge j m with h' | h'
    · exact h'
    · rw [List.getElem?_eq_none (by omega)] at hj; cases hj
  rcases h with h0 | ⟨b, off, ha, hb, hc⟩
  · omega
  · simp only [Option.some.injEq] at ha
    subst ha
    have e : (⟨b, off, none⟩ : Addr).add j = ⟨b, off + j, none⟩ := by
      unfold Addr.add
      split
      · rename_i h0; subst h0; rfl
      · rfl
    rw [e, hc j hlt, ← hj, hf j hlt]

end Go.Proofs.YtlaeflpddehipabGreatDoor

/- Statements: what rungs do, and how it lies in memory. -/
import Derived.Test.YtlaeflpddehipabGreatDoorEx
set_option linter.unusedVariables false
set_option linter.unusedSimpArgs false
namespace Go.Proofs.YtlaeflpddehipabGreatDoor
open Go.RowKit

inductive Sq where
  | nil
  | cons (k line : Int) (nm : Bs) (e : Ex) (thn next : Sq)
def Sq.len : Sq → Nat
  | .nil => 0
  | .cons _ _ _ _ _ n => n.len + 1
def Sq.tot : Sq → Nat
  | .nil => 0
  | .cons _ _ _ _ t n => 1 + t.tot + n.tot
theorem Sq.len_tot : ∀ t : Sq, t.len ≤ t.tot
  | .nil => Nat.le_refl _
  | .cons _ _ _ _ t n => by have := Sq.len_tot n; simp [Sq.len, Sq.tot]; omega
def Sq.app : Sq → Sq → Sq
  | .nil, u => u
  | .cons k line nm e t n, u => .cons k line nm e t (n.app u)
theorem Sq.app_nil : ∀ t : Sq, t.app .nil = t
  | .nil => rfl
  | .cons k line nm e t n => by simp [Sq.app, Sq.app_nil n]
theorem Sq.app_assoc (u v : Sq) : ∀ t : Sq, (t.app u).app v = t.app (u.app v)
  | .nil => rfl
  | .cons k line nm e t n => by simp [Sq.app, Sq.app_assoc u v n]
theorem Sq.len_app (u : Sq) : ∀ t : Sq, (t.app u).len = t.len + u.len
  | .nil => by simp [Sq.app, Sq.len]
  | .cons k line nm e t n => by simp [Sq.app, Sq.len, Sq.len_app u n]; omega
theorem Sq.tot_app (u : Sq) : ∀ t : Sq, (t.app u).tot = t.tot + u.tot
  | .nil => by simp [Sq.app, Sq.tot]
  | .cons k line nm e t n => by simp [Sq.app, Sq.tot, Sq.tot_app u n]; omega
/-- What a coil does. -/
def coil (i : Int) (g : Rg) : Ex := if g.kind = 1 then andE i g.cells else exNeg i (andE i g.cells)
def sqOne (i : Int) (g : Rg) : Sq :=
  if g.kind = 1 ∨ g.kind = 2 then .cons 1 i g.name (coil i g) .nil .nil
  else .cons 2 i [] (andE i g.cells) (.cons 1 i g.name (exConst i (if g.kind = 3 then 1 else 0)) .nil .nil) .nil
/-- What rungs do, from the i-th on. -/
def bodyE : List Rg → Nat → Sq
  | [], _ => .nil
  | g :: gs, i => (sqOne (i : Int) g).app (bodyE gs (i + 1))
theorem sqOne_len (i : Int) (g : Rg) : (sqOne i g).len = 1 := by
  unfold sqOne
  split <;> rfl
theorem sqOne_tot (i : Int) (g : Rg) : (sqOne i g).tot ≤ 2 := by
  unfold sqOne
  split
  · exact (by decide : 1 ≤ 2)
  · exact Nat.le_refl _
theorem bodyE_tot : ∀ (gs : List Rg) (i : Nat), (bodyE gs i).tot ≤ 2 * gs.length
  | [], _ => Nat.le_refl _
  | g :: gs, i => by
    have h1 := sqOne_tot (i : Int) g
    have h2 := bodyE_tot gs (i + 1)
    simp only [bodyE, Sq.tot_app, List.length_cons]
    omega
/-- What the first k rungs do. -/
theorem bodyE_snoc (g : Rg) : ∀ (gs : List Rg) (i : Nat), bodyE (gs ++ [g]) i = (bodyE gs i).app (sqOne ((i + gs.length : Nat) : Int) g)
  | [], i => by simp [bodyE, Sq.app_nil, Sq.app]
  | g' :: gs, i => by
    simp only [List.cons_append, bodyE, bodyE_snoc g gs (i + 1), Sq.app_assoc, List.length_cons]
    rw [show i + 1 + gs.length = i + (gs.length + 1) by omega]
theorem bodyE_len : ∀ (gs : List Rg) (i : Nat), (bodyE gs i).len = gs.length
  | [], _ => rfl
  | g :: gs, i => by
    simp only [bodyE, Sq.len_app, sqOne_len, bodyE_len gs (i + 1), List.length_cons]
    omega

/-- A statement's values. -/
abbrev sC (k line : Int) (nm : Bs) (ve vt : Value) : List Value := [.int .i64 k, .int .i64 line, st nm, ve, .slice none 0 0, .int .i64 0, vt, .slice none 0 0]
/-- Values that are statements; what they point to lies where P holds. -/
def SqL (W : World) (P : Nat → Prop) : Sq → List Value → Prop
  | .nil, xs => xs = []
  | .cons k line nm e t n, xs => ∃ ve vt ys, xs = sC k line nm ve vt ++ ys ∧ RepE W P e ve ∧ (∃ a c zs, vt = .slice a t.len c ∧ t.len ≤ c ∧ SqL W P t zs ∧ (t.len = 0 ∨ ∃ g cur T, a = some ⟨g, 0, none⟩ ∧ P g ∧ W.heap[g]? = some (.cells cur T (0, 0)) ∧ ∀ (j : Nat) (u : Value), zs[j]? = some u → cur[j]? = some u)) ∧ SqL W P n ys
/-- A slice of such. -/
def SqS (W : World) (P : Nat → Prop) (t : Sq) (vt : Value) : Prop :=
  ∃ a c zs, vt = .slice a t.len c ∧ t.len ≤ c ∧ SqL W P t zs ∧ (t.len = 0 ∨ ∃ g cur T, a = some ⟨g, 0, none⟩ ∧ P g ∧ W.heap[g]? = some (.cells cur T (0, 0)) ∧ ∀ (j : Nat) (u : Value), zs[j]? = some u → cur[j]? = some u)
theorem SqL.keep {W W' : World} {P P' : Nat → Prop} (hP : ∀ k, P k → P' k ∧ W'.heap[k]? = W.heap[k]?) : ∀ {t : Sq} {xs : List Value}, SqL W P t xs → SqL W' P' t xs
  | .nil, _, h => h
  | .cons k line nm e t n, _, ⟨ve, vt, ys, ex, he, ⟨a, c, zs, e1, hc, h1, h2⟩, h⟩ => ⟨ve, vt, ys, ex, RepE.keep hP he, ⟨a, c, zs, e1, hc, SqL.keep hP h1, h2.imp id fun ⟨g, cur, T, ea, hg, hh, hz⟩ => ⟨g, cur, T, ea, (hP g hg).1, (hP g hg).2.trans hh, hz⟩⟩, SqL.keep hP h⟩
theorem SqS.keep {W W' : World} {P P' : Nat → Prop} (hP : ∀ k, P k → P' k ∧ W'.heap[k]? = W.heap[k]?) {t : Sq} {v : Value} (h : SqS W P t v) : SqS W' P' t v := by
  obtain ⟨a, c, zs, e1, hc, h1, h2⟩ := h
  exact ⟨a, c, zs, e1, hc, h1.keep hP, h2.imp id fun ⟨g, cur, T, ea, hg, hh, hz⟩ => ⟨g, cur, T, ea, (hP g hg).1, (hP g hg).2.trans hh, hz⟩⟩
theorem SqL.app {W : World} {P : Nat → Prop} {u : Sq} {ys : List Value} (hu : SqL W P u ys) : ∀ {t : Sq} {xs : List Value}, SqL W P t xs → SqL W P (t.app u) (xs ++ ys)
  | .nil, _, h => by cases h; exact hu
  | .cons k line nm e t n, _, ⟨ve, vt, zs, ex, he, hv, h⟩ => by subst ex; exact ⟨ve, vt, zs ++ ys, rfl, he, hv, SqL.app hu h⟩
theorem SqS.nil (W : World) (P : Nat → Prop) : SqS W P .nil (.slice none 0 0) := ⟨none, 0, [], rfl, Nat.le_refl _, rfl, .inl rfl⟩
/-- One statement. -/
theorem SqL.one {W : World} {P : Nat → Prop} {k line : Int} {nm : Bs} {e : Ex} {t : Sq} {ve vt : Value} (he : RepE W P e ve) (ht : SqS W P t vt) : SqL W P (.cons k line nm e t .nil) (sC k line nm ve vt) := ⟨ve, vt, [], (List.append_nil _).symm, he, ht, rfl⟩
/-- A row of statements of the call's own. -/
def SqRow (B : Nat) (W : World) (v : Value) (t : Sq) : Prop :=
  ∃ xs P, W.ownsRow B 93 8 v t.len xs ∧ SqL W P t xs ∧ ∀ k, P k → B ≤ k ∧ k < W.heap.size ∧ v.ownBlock ≠ some k
theorem SqRow.nil (B : Nat) (W : World) : SqRow B W (.slice none 0 0) .nil := ⟨[], fun _ => False, World.ownsRow_nil _ _ _ _, rfl, fun _ h => h.elim⟩
theorem SqRow.old {B : Nat} {W W' : World} {v : Value} {t : Sq} (h : SqRow B W v t) (hb : Below W.heap.size W W') : SqRow B W' v t := by
  obtain ⟨xs, P, h1, h2, h3⟩ := h
  exact ⟨xs, P, rowOld h1 hb, h2.keep fun k hk => ⟨hk, hb.block k (h3 k hk).2.1⟩, fun k hk => ⟨(h3 k hk).1, Nat.lt_of_lt_of_le (h3 k hk).2.1 hb.size, (h3 k hk).2.2⟩⟩
theorem SqRow.off {B : Nat} {W W' : World} {v : Value} {t : Sq} (h : SqRow B W v t) (hb : ∀ k, B ≤ k → k < W.heap.size → W'.heap[k]? = W.heap[k]?) (hs : W.heap.size ≤ W'.heap.size) : SqRow B W' v t := by
  obtain ⟨xs, P, h1, h2, h3⟩ := h
  exact ⟨xs, P, rowKeep h1 fun k hk => hb k (h1.lt k hk).1 (h1.lt k hk).2, h2.keep fun k hk => ⟨hk, hb k (h3 k hk).1 (h3 k hk).2.1⟩, fun k hk => ⟨(h3 k hk).1, Nat.lt_of_lt_of_le (h3 k hk).2.1 hs, (h3 k hk).2.2⟩⟩
theorem SqRow.form {B : Nat} {W : World} {v : Value} {t : Sq} (h : SqRow B W v t) : ∃ a c, v = .slice a t.len c := by
  obtain ⟨xs, P, h1, _, _⟩ := h
  rcases h1.2 with ⟨rfl, h0⟩ | ⟨g, cap, cur, rfl, _⟩
  · exact ⟨none, 0, by rw [h0]⟩
  · exact ⟨_, _, rfl⟩
theorem SqRow.lt {B : Nat} {W : World} {v : Value} {t : Sq} (h : SqRow B W v t) : ∀ k, v.ownBlock = some k → B ≤ k ∧ k < W.heap.size := by
  obtain ⟨xs, P, h1, _, _⟩ := h
  exact fun k hk => h1.lt k hk
/-- One statement more. -/
theorem stmtPush {P : Program} {ops : Array Oper} {o : Oper} {a : Act} {K : Act → World → Prop} {Q : Exit → Act → World → Prop} {EE : Prop} (hw : Region.wanted o (yielded ops a.tmps) = true) (B : Nat) (W1 wr : World) (s x : Operand) (t : TypeId)
    (ho : o.op = .call { callee := .builtin .append, args := #[s, x], argTypes := #[t, t] })
    (i : TypeInfo) (z : Value) (bytes : Nat) (ht : P.underlying t = some (.slice 93)) (hi : P.info? 93 = some i) (hz : i.zero = some z)
    (hsize : i.size = 8) (hby : i.bytes = bytes) (hzs : z.cells.size = 8)
    (v : Value) (gs : Sq) (k line : Int) (nm : Bs) (e : Ex) (tn : Sq) (n : Nat) (hn : gs.len = n) (hs : a.eval s = v) (hown : SqRow B wr v gs) (ve vt : Value)
    (hW : W1 = wr.alloc (.cells (sC k line nm ve vt).toArray 93)) (hx : a.eval x = .slice (some ⟨wr.heap.size, 0, none⟩) 1 1) (h1 : ve.oneCell' = true) (h1' : vt.oneCell' = true)
    (hu : SqL wr (fun k => B ≤ k ∧ k < wr.heap.size ∧ v.ownBlock ≠ some k) (.cons k line nm e tn .nil) (sC k line nm ve vt))
    (hn4 : n ≤ 1000000) (hb4 : bytes ≤ 1000) (hB : B ≤ wr.heap.size)
    (h : ∀ av' cv' wb, Hid (SqRow B wb (.slice av' (n + 1) cv') (gs.app (.cons k line nm e tn .nil))) → Hid ((wr.alloc (.cells (sC k line nm ve vt).toArray 93)).grownBy wb v.ownBlock) → K (a.put o.dst (.slice av' (n + 1) cv')) wb) :
    if Region.wanted o (yielded ops a.tmps) = true then Oper.wp P o a W1 K Q else EE := by
  subst hW hn
  rw [if_pos hw]
  obtain ⟨xs, P0, g1, g2, g3⟩ := hown
  have hb0 : Below wr.heap.size wr (wr.alloc (.cells (sC k line nm ve vt).toArray 93)) := (Below.refl _ _).alloc (Nat.le_refl _) _
  have hbytes : (gs.len + 1) * bytes ≤ 140737488355328 := Nat.le_trans (Nat.mul_le_mul (show gs.len + 1 ≤ 1000001 by omega) hb4) (by decide)
  obtain ⟨v', wb, hr, k1, k2, k3, k4⟩ := run_append_own_at (P := P) (wr.alloc (.cells (sC k line nm ve vt).toArray 93)) B t o.type 93 i z 8 bytes ht hi hz hsize hby hzs (by decide) v gs.len xs (rowOld g1 hb0) ⟨wr.heap.size, 0, none⟩ 1 1 (sC k line nm ve vt) rfl (fun j u hj => by rw [Addr.add_at, cell_new]; simpa using hj) (fun u hu => by
      simp only [List.mem_cons, List.not_mem_nil, or_false] at hu
      rcases hu with rfl | rfl | rfl | rfl | rfl | rfl | rfl | rfl
      · rfl
      · rfl
      · rfl
      · exact h1
      · rfl
      · rfl
      · exact h1'
      · rfl) (by unfold maxLen; omega) hbytes (Nat.le_trans hB (by simp))
  obtain ⟨av', cv', rfl⟩ := owns_slice k1
  unfold Oper.wp execOp
  simp only [ho, resolve, invoke, builtin, Sem.run_bind, Sem.run_pure, Result.andThen_ok, List.map_toArray, List.map_cons, List.map_nil, hs, hx, hr]
  have hne : ∀ k, (B ≤ k ∧ k < wr.heap.size ∧ v.ownBlock ≠ some k) → (B ≤ k ∧ k < wb.heap.size ∧ (Value.slice av' (gs.len + 1) cv').ownBlock ≠ some k) := fun k ⟨h1, h2, h3⟩ => ⟨h1, Nat.lt_of_lt_of_le h2 (Nat.le_trans hb0.size k2.size), fun e => by
    rcases k4 with h | h
    · exact h3 (h ▸ e)
    · rw [h] at e; cases e; rw [World.size_alloc] at h2; omega⟩
  have hke : ∀ k, (B ≤ k ∧ k < wr.heap.size ∧ v.ownBlock ≠ some k) → wb.heap[k]? = wr.heap[k]? := fun k ⟨h1, h2, h3⟩ => (k2.block k (Nat.lt_of_lt_of_le h2 hb0.size) (fun e => h3 e.symm)).trans (hb0.block k h2)
  refine h av' cv' wb (hid ⟨xs ++ sC k line nm ve vt, _, ?_, SqL.app (hu.keep fun k hk => ⟨hne k hk, hke k hk⟩) (g2.keep fun k hk => ⟨hne k (g3 k hk), hke k (g3 k hk)⟩), fun k hk => hk⟩) (hid k2)
  rw [Sq.len_app]
  exact k1

/-- The same where operations go in the text's order. -/
theorem stmtPushL {P : Program} {ops : Array Oper} {rest : List Oper} {o : Oper} {a : Act} {Q : Exit → Act → World → Prop} (B : Nat) (W1 wr : World) (hgd : o.guard = none) (s x : Operand) (t : TypeId)
    (ho : o.op = .call { callee := .builtin .append, args := #[s, x], argTypes := #[t, t] })
    (i : TypeInfo) (z : Value) (bytes : Nat) (ht : P.underlying t = some (.slice 93)) (hi : P.info? 93 = some i) (hz : i.zero = some z)
    (hsize : i.size = 8) (hby : i.bytes = bytes) (hzs : z.cells.size = 8)
    (v : Value) (gs : Sq) (k line : Int) (nm : Bs) (e : Ex) (tn : Sq) (n : Nat) (hn : gs.len = n) (hs : a.eval s = v) (hown : SqRow B wr v gs) (ve vt : Value)
    (hW : W1 = wr.alloc (.cells (sC k line nm ve vt).toArray 93)) (hx : a.eval x = .slice (some ⟨wr.heap.size, 0, none⟩) 1 1) (h1 : ve.oneCell' = true) (h1' : vt.oneCell' = true)
    (hu : SqL wr (fun k => B ≤ k ∧ k < wr.heap.size ∧ v.ownBlock ≠ some k) (.cons k line nm e tn .nil) (sC k line nm ve vt))
    (hn4 : n ≤ 1000000) (hb4 : bytes ≤ 1000) (hB : B ≤ wr.heap.size)
    (h : ∀ av' cv' wb, Hid (SqRow B wb (.slice av' (n + 1) cv') (gs.app (.cons k line nm e tn .nil))) → Hid ((wr.alloc (.cells (sC k line nm ve vt).toArray 93)).grownBy wb v.ownBlock) → wpList P ops Q rest (a.put o.dst (.slice av' (n + 1) cv')) wb) :
    wpList P ops Q (o :: rest) a W1 := by
  subst hW hn
  obtain ⟨xs, P0, g1, g2, g3⟩ := hown
  have hb0 : Below wr.heap.size wr (wr.alloc (.cells (sC k line nm ve vt).toArray 93)) := (Below.refl _ _).alloc (Nat.le_refl _) _
  have hbytes : (gs.len + 1) * bytes ≤ 140737488355328 := Nat.le_trans (Nat.mul_le_mul (show gs.len + 1 ≤ 1000001 by omega) hb4) (by decide)
  refine wpList_append_own_at _ hgd s x t ho B 93 i z 8 bytes ht hi hz hsize hby hzs (by decide) v gs.len xs hs (rowOld g1 hb0) ⟨wr.heap.size, 0, none⟩ 1 1 (sC k line nm ve vt) hx rfl (fun j u hj => by rw [Addr.add_at, cell_new]; simpa using hj) (fun u hu => by
      simp only [List.mem_cons, List.not_mem_nil, or_false] at hu
      rcases hu with rfl | rfl | rfl | rfl | rfl | rfl | rfl | rfl
      · rfl
      · rfl
      · rfl
      · exact h1
      · rfl
      · rfl
      · exact h1'
      · rfl) (by unfold maxLen; omega) hbytes (Nat.le_trans hB (by simp)) ?_
  intro v' wb k1 k2 k3 k4
  obtain ⟨av', cv', rfl⟩ := owns_slice k1
  have hne : ∀ k, (B ≤ k ∧ k < wr.heap.size ∧ v.ownBlock ≠ some k) → (B ≤ k ∧ k < wb.heap.size ∧ (Value.slice av' (gs.len + 1) cv').ownBlock ≠ some k) := fun k ⟨h1, h2, h3⟩ => ⟨h1, Nat.lt_of_lt_of_le h2 (Nat.le_trans hb0.size k2.size), fun e => by
    rcases k4 with h | h
    · exact h3 (h ▸ e)
    · rw [h] at e; cases e; rw [World.size_alloc] at h2; omega⟩
  have hke : ∀ k, (B ≤ k ∧ k < wr.heap.size ∧ v.ownBlock ≠ some k) → wb.heap[k]? = wr.heap[k]? := fun k ⟨h1, h2, h3⟩ => (k2.block k (Nat.lt_of_lt_of_le h2 hb0.size) (fun e => h3 e.symm)).trans (hb0.block k h2)
  refine h av' cv' wb (hid ⟨xs ++ sC k line nm ve vt, _, ?_, SqL.app (hu.keep fun k hk => ⟨hne k hk, hke k hk⟩) (g2.keep fun k hk => ⟨hne k (g3 k hk), hke k (g3 k hk)⟩), fun k hk => hk⟩) (hid k2)
  rw [Sq.len_app]
  exact k1
theorem below_pushed {w W wb : World} {o : Obj} {row : Option Nat} {B : Nat} (h : Below B w W) (hB : w.heap.size = B) (hg : (W.alloc o).grownBy wb row) (hr : ∀ k, row = some k → B ≤ k) : Below B w wb := by
  have h0 : Below W.heap.size W (W.alloc o) := (Below.refl _ _).alloc (Nat.le_refl _) _
  refine ⟨hg.os.trans (h0.os.trans h.os), hg.tape.trans (h0.tape.trans h.tape), hg.output.trans (h0.output.trans h.output), Nat.le_trans h.size (Nat.le_trans h0.size hg.size), fun k hk => ?_⟩
  have hW : k < W.heap.size := Nat.lt_of_lt_of_le hk (hB ▸ h.size)
  exact ((hg.block k (Nat.lt_of_lt_of_le hW h0.size) (fun e => by have := hr k e.symm; omega)).trans (h0.block k hW)).trans (h.block k hk)
/-- What lies behind a row stands beside it. -/
theorem RepB.elem {B0 B : Nat} {W : World} {e : Ex} {v o : Value} (h : RepB B W e v) (hB : B0 ≤ B) (ho : ∀ k, o.ownBlock = some k → k < B) : RepE W (fun k => B0 ≤ k ∧ k < W.heap.size ∧ o.ownBlock ≠ some k) e v :=
  RepE.keep (fun k hk => ⟨⟨Nat.le_trans hB hk.1, hk.2, fun e => by have := ho k e; have := hk.1; omega⟩, rfl⟩) h
/-- An expression that lies beside the block bs. -/
def RepN (B bs : Nat) (W : World) (e : Ex) (v : Value) : Prop := RepE W (fun k => B ≤ k ∧ k < W.heap.size ∧ k ≠ bs) e v
theorem RepB.skip {B : Nat} {W W' : World} {e : Ex} {v : Value} (h : RepB B W e v) (hb : Below W.heap.size W W') : RepN B W.heap.size W' e v :=
  RepE.keep (fun k hk => ⟨⟨hk.1, Nat.lt_of_lt_of_le hk.2 hb.size, Nat.ne_of_lt hk.2⟩, hb.block k hk.2⟩) h
theorem RepN.below {B bs : Nat} {W W' : World} {e : Ex} {v : Value} (h : RepN B bs W e v) (hb : Below W.heap.size W W') : RepN B bs W' e v :=
  RepE.keep (fun k hk => ⟨⟨hk.1, Nat.lt_of_lt_of_le hk.2.1 hb.size, hk.2.2⟩, hb.block k hk.2.1⟩) h
theorem RepN.off {B bs : Nat} {W W' : World} {e : Ex} {v : Value} (h : RepN B bs W e v) (hs : W'.heap.size = W.heap.size) (hb : ∀ j, j ≠ bs → W'.heap[j]? = W.heap[j]?) : RepN B bs W' e v :=
  RepE.keep (fun k hk => ⟨⟨hk.1, by rw [hs]; exact hk.2.1, hk.2.2⟩, hb k hk.2.2⟩) h
theorem RepN.none (B bs : Nat) (W : World) : RepN B bs W .none (.pointer Option.none) := rfl
theorem RepN.new {B bs : Nat} {W : World} {l r : Ex} {vl vr : Value} (hl : RepN B bs W l vl) (hr : RepN B bs W r vr) (hB : B ≤ W.heap.size) (hs : bs < W.heap.size) (k line val ty : Int) (nm s5 op : Bs) :
    RepN B bs (W.alloc (.cells (eC k line val ty nm s5 op vl vr) 97)) (.node k line val ty nm s5 op l r) (.pointer (some ⟨W.heap.size, 0, Option.none⟩)) := by
  have hb : Below W.heap.size W (W.alloc (.cells (eC k line val ty nm s5 op vl vr) 97)) := (Below.refl _ _).alloc (Nat.le_refl _) _
  exact ⟨_, vl, vr, rfl, ⟨hB, by simp, by omega⟩, heap_alloc_new W _, hl.below hb, hr.below hb⟩
theorem RepN.elem {B0 B bs : Nat} {W : World} {e : Ex} {v o : Value} (h : RepN B bs W e v) (hB : B0 ≤ B) (ho : ∀ k, o.ownBlock = some k → k < B) : RepE W (fun k => B0 ≤ k ∧ k < W.heap.size ∧ o.ownBlock ≠ some k) e v :=
  RepE.keep (fun k hk => ⟨⟨Nat.le_trans hB hk.1, hk.2.1, fun e => by have := ho k e; have := hk.1; omega⟩, rfl⟩) h
/-- A struct of eight written anew. -/
theorem set8 {W : World} {b : Nat} {c0 c1 c2 c3 c4 c5 c6 c7 : Value} {T : TypeId} (h : W.heap[b]? = some (.cells #[c0, c1, c2, c3, c4, c5, c6, c7] T (0, 0))) (a0 a1 a2 a3 a4 a5 a6 a7 : Value) :
    let X := (((((((W.setCell ⟨b, 0, none⟩ a0).setCell ⟨b, 1, none⟩ a1).setCell ⟨b, 2, none⟩ a2).setCell ⟨b, 3, none⟩ a3).setCell ⟨b, 4, none⟩ a4).setCell ⟨b, 5, none⟩ a5).setCell ⟨b, 6, none⟩ a6).setCell ⟨b, 7, none⟩ a7
    X.heap[b]? = some (.cells #[a0, a1, a2, a3, a4, a5, a6, a7] T (0, 0)) ∧ (∀ j, j ≠ b → X.heap[j]? = W.heap[j]?) ∧ X.heap.size = W.heap.size ∧ ∀ (B : Nat) (w : World), Below B w W → B ≤ b → Below B w X := by
  intro X
  refine ⟨(boxSet (boxSet (boxSet (boxSet (boxSet (boxSet (boxSet (boxSet h 0 _) 1 _) 2 _) 3 _) 4 _) 5 _) 6 _) 7 _).trans (by simp), fun j hj => ?_, by simp [X, World.setCell], fun B w hb hB => ?_⟩
  · exact (heap_setCell_other _ _ _ _ hj).trans ((heap_setCell_other _ _ _ _ hj).trans ((heap_setCell_other _ _ _ _ hj).trans ((heap_setCell_other _ _ _ _ hj).trans ((heap_setCell_other _ _ _ _ hj).trans ((heap_setCell_other _ _ _ _ hj).trans ((heap_setCell_other _ _ _ _ hj).trans (heap_setCell_other _ _ _ _ hj)))))))
  · exact (((((((hb.setCell (p := ⟨b, 0, none⟩) hB _).setCell (p := ⟨b, 1, none⟩) hB _).setCell (p := ⟨b, 2, none⟩) hB _).setCell (p := ⟨b, 3, none⟩) hB _).setCell (p := ⟨b, 4, none⟩) hB _).setCell (p := ⟨b, 5, none⟩) hB _).setCell (p := ⟨b, 6, none⟩) hB _).setCell (p := ⟨b, 7, none⟩) hB _
/-- One statement in a block of its own. -/
theorem SqS.box {W : World} {P : Nat → Prop} {k line : Int} {nm : Bs} {e : Ex} {ve : Value} {bt : Nat} {T : TypeId} (hP : P bt) (h : W.heap[bt]? = some (.cells (sC k line nm ve (.slice none 0 0)).toArray T (0, 0))) (he : RepE W P e ve) : SqS W P (.cons k line nm e .nil .nil) (.slice (some ⟨bt, 0, none⟩) 1 1) :=
  ⟨some ⟨bt, 0, none⟩, 1, _, rfl, Nat.le_refl _, SqL.one he (SqS.nil _ _), .inr ⟨bt, _, T, rfl, hP, h, fun j u hj => by simpa using hj⟩⟩
theorem Tryz.infoStmt : (Tryz.prog.info? 93).map (fun i => (i.zero, i.size, i.bytes)) = some (some (.agg #[.int .i64 0, .int .i64 0, .string ⟨#[]⟩, .pointer none, .slice none 0 0, .int .i64 0, .slice none 0 0, .slice none 0 0]), 8, 120) := by kernel_rfl

/-- An expression, to be read alone. -/
def ExAt (w : World) (e : Ex) (v : Value) : Prop := RepE w (fun k => k < w.heap.size) e v
theorem ExAt.below {w w' : World} {e : Ex} {v : Value} (h : ExAt w e v) (hb : Below w.heap.size w w') : ExAt w' e v :=
  RepE.keep (fun k hk => ⟨Nat.lt_of_lt_of_le hk hb.size, hb.block k hk⟩) h
/-- Statements at a place. -/
def QAt (w : World) : Sq → Nat → Nat → Prop
  | .nil, _, _ => True
  | .cons k line nm e t n, g, o => w.cell? ⟨g, o, none⟩ = some (.int .i64 k) ∧ w.cell? ⟨g, o + 1, none⟩ = some (.int .i64 line) ∧ w.cell? ⟨g, o + 2, none⟩ = some (st nm) ∧ (∃ ve, w.cell? ⟨g, o + 3, none⟩ = some ve ∧ ExAt w e ve) ∧ w.cell? ⟨g, o + 4, none⟩ = some (.slice none 0 0) ∧ w.cell? ⟨g, o + 5, none⟩ = some (.int .i64 0) ∧ (∃ a c, w.cell? ⟨g, o + 6, none⟩ = some (.slice a t.len c) ∧ t.len ≤ c ∧ (t.len = 0 ∨ ∃ g', a = some ⟨g', 0, none⟩ ∧ QAt w t g' 0)) ∧ w.cell? ⟨g, o + 7, none⟩ = some (.slice none 0 0) ∧ QAt w n g (o + 8)
def QSAt (w : World) (t : Sq) (v : Value) : Prop := ∃ a c, v = .slice a t.len c ∧ t.len ≤ c ∧ (t.len = 0 ∨ ∃ g, a = some ⟨g, 0, none⟩ ∧ QAt w t g 0)
theorem QAt.below {w w' : World} (hb : Below w.heap.size w w') : ∀ {t : Sq} {g o : Nat}, QAt w t g o → QAt w' t g o
  | .nil, _, _, _ => trivial
  | .cons k line nm e t n, _, _, ⟨h0, h1, h2, ⟨ve, h3, he⟩, h4, h5, ⟨a, c, h6, hc, ht⟩, h7, hn⟩ =>
    have f : ∀ {a : Addr} {v : Value}, w.cell? a = some v → w'.cell? a = some v := fun h => (hb.cell (boxLt4 h)).trans h
    ⟨f h0, f h1, f h2, ⟨ve, f h3, he.below hb⟩, f h4, f h5, ⟨a, c, f h6, hc, ht.imp id fun ⟨g', e, hg⟩ => ⟨g', e, QAt.below hb hg⟩⟩, f h7, QAt.below hb hn⟩
theorem QSAt.below {w w' : World} {t : Sq} {v : Value} (h : QSAt w t v) (hb : Below w.heap.size w w') : QSAt w' t v := by
  obtain ⟨a, c, e, hc, h5⟩ := h
  exact ⟨a, c, e, hc, h5.imp id fun ⟨g', e, hg⟩ => ⟨g', e, hg.below hb⟩⟩
theorem SqL.at' {w : World} {P : Nat → Prop} (hP : ∀ k, P k → k < w.heap.size) : ∀ {t : Sq} {xs : List Value} {g o : Nat}, SqL w P t xs → (∀ (j : Nat) (u : Value), xs[j]? = some u → w.cell? ⟨g, o + j, none⟩ = some u) → QAt w t g o
  | .nil, _, _, _, _, _ => trivial
  | .cons k line nm e t n, _, g, o, ⟨ve, vt, ys, ex, he, ⟨a, c, zs, e1, hc, h1, h2⟩, h⟩, hx => by
    subst ex e1
    refine ⟨hx 0 _ rfl, hx 1 _ rfl, hx 2 _ rfl, ⟨ve, hx 3 _ rfl, he.keep fun k hk => ⟨hP k hk, rfl⟩⟩, hx 4 _ rfl, hx 5 _ rfl, ⟨a, c, hx 6 _ rfl, hc, h2.imp id fun ⟨g', cur, T, ea, _, hh, hz⟩ => ⟨g', ea, SqL.at' hP h1 fun j u hj => ?_⟩⟩, hx 7 _ rfl, SqL.at' hP h fun j u hj => by rw [Nat.add_assoc, Nat.add_comm 8 j]; exact hx (j + 8) u hj⟩
    rw [Nat.zero_add]
    exact (cell_block hh j).trans (hz j u hj)
theorem SqRow.at' {B : Nat} {W : World} {v : Value} {t : Sq} (h : SqRow B W v t) : QSAt W t v := by
  obtain ⟨xs, P, h1, h2, h3⟩ := h
  rcases h1.2 with ⟨rfl, h0⟩ | ⟨g, cap, cur, rfl, h4, h5, h6, h7⟩
  · exact ⟨none, 0, by rw [h0], by omega, .inl h0⟩
  · refine ⟨some ⟨g, 0, none⟩, cap, rfl, by omega, .inr ⟨g, rfl, h2.at' (fun k hk => (h3 k hk).2.1) fun j u hj => ?_⟩⟩
    have := h1.cells (g := g) rfl j u hj
    rw [Addr.add_at] at this
    rw [Nat.zero_add]
    exact this
end Go.Proofs.YtlaeflpddehipabGreatDoor

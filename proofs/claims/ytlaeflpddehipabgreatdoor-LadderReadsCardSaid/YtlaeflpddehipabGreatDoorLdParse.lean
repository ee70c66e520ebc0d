/- ladder.Parse. -/
import Derived.Test.YtlaeflpddehipabGreatDoorLdRange
import Derived.Test.YtlaeflpddehipabGreatDoorLdCatch
set_option linter.unusedVariables false
set_option linter.unusedSimpArgs false
namespace Go.Proofs.YtlaeflpddehipabGreatDoor
open Go.RowKit
attribute [local go_sem ↓] Go.wp_at_zero Go.wp_at_succ
attribute [local go_sem] Oper.semAt_some

/-- What comes of lines. -/
inductive ORes where
  | ok (l : List Rg)
  | bad (e : Int) (i : Nat)
noncomputable def runLn : List Bs → Nat → List Rg → ORes
  | [], _, acc => .ok acc
  | t :: ts, i, acc => if Lib.trimB t 32 = [] then runLn ts (i + 1) acc else if acc.length = 30 then .bad 4 i else match rung t with
    | .ok g => runLn ts (i + 1) (acc ++ [g])
    | .bad e => .bad e i
/-- Rungs in memory. -/
def RungL (W : World) (P : Nat → Prop) : List Rg → List Value → Prop
  | [], xs => xs = []
  | g :: gs, xs => ∃ v ys, xs = v :: .int .i64 g.kind :: st g.name :: ys ∧ RepS W P g.cells v ∧ RungL W P gs ys
theorem RungL.keep {W W' : World} {P P' : Nat → Prop} (hP : ∀ k, P k → P' k ∧ W'.heap[k]? = W.heap[k]?) : ∀ {gs : List Rg} {xs : List Value}, RungL W P gs xs → RungL W' P' gs xs
  | [], _, h => h
  | g :: gs, _, ⟨v, ys, e, h1, h2⟩ => ⟨v, ys, e, h1.keep hP, RungL.keep hP h2⟩
theorem RungL.snoc {W : World} {P : Nat → Prop} {g : Rg} {v : Value} (hv : RepS W P g.cells v) : ∀ {gs : List Rg} {xs : List Value}, RungL W P gs xs → RungL W P (gs ++ [g]) (xs ++ [v, .int .i64 g.kind, st g.name])
  | [], _, h => by cases h; exact ⟨v, [], rfl, hv, rfl⟩
  | g' :: gs, _, ⟨v', ys, e, h1, h2⟩ => by subst e; exact ⟨v', ys ++ [v, .int .i64 g.kind, st g.name], rfl, h1, RungL.snoc hv h2⟩
def RungRow (B : Nat) (W : World) (v : Value) (gs : List Rg) : Prop :=
  ∃ xs P, W.ownsRow B 39 3 v gs.length xs ∧ RungL W P gs xs ∧ ∀ k, P k → B ≤ k ∧ k < W.heap.size ∧ v.ownBlock ≠ some k
theorem RungRow.old {B : Nat} {W W' : World} {v : Value} {gs : List Rg} (h : RungRow B W v gs) (hb : Below W.heap.size W W') : RungRow B W' v gs := by
  obtain ⟨xs, P, h1, h2, h3⟩ := h
  exact ⟨xs, P, rowOld h1 hb, h2.keep fun k hk => ⟨hk, hb.block k (h3 k hk).2.1⟩, fun k hk => ⟨(h3 k hk).1, Nat.lt_of_lt_of_le (h3 k hk).2.1 hb.size, (h3 k hk).2.2⟩⟩
theorem RungRow.off {B : Nat} {W W' : World} {v : Value} {gs : List Rg} (h : RungRow B W v gs) (hb : ∀ k, B ≤ k → k < W.heap.size → W'.heap[k]? = W.heap[k]?) (hs : W.heap.size ≤ W'.heap.size) : RungRow B W' v gs := by
  obtain ⟨xs, P, h1, h2, h3⟩ := h
  exact ⟨xs, P, rowKeep h1 fun k hk => hb k (h1.lt k hk).1 (h1.lt k hk).2, h2.keep fun k hk => ⟨hk, hb k (h3 k hk).1 (h3 k hk).2.1⟩, fun k hk => ⟨(h3 k hk).1, Nat.lt_of_lt_of_le (h3 k hk).2.1 hs, (h3 k hk).2.2⟩⟩
theorem RungRow.form {B : Nat} {W : World} {v : Value} {gs : List Rg} (h : RungRow B W v gs) : ∃ a c, v = .slice a gs.length c := by
  obtain ⟨xs, P, h1, _, _⟩ := h
  rcases h1.2 with ⟨rfl, h0⟩ | ⟨g, cap, cur, rfl, _⟩
  · exact ⟨none, 0, by rw [h0]⟩
  · exact ⟨_, _, rfl⟩
/-- One rung more. -/
theorem rungPush_held {P : Program} {ops : Array Oper} {o : Oper} {a : Act} {K : Act → World → Prop} {Q : Exit → Act → World → Prop} {EE : Prop} (hw : Region.wanted o (yielded ops a.tmps) = true) (B : Nat) (W1 wr : World) (s x : Operand) (t : TypeId)
    (ho : o.op = .call { callee := .builtin .append, args := #[s, x], argTypes := #[t, t] })
    (i : TypeInfo) (z : Value) (bytes : Nat) (ht : P.underlying t = some (.slice 39)) (hi : P.info? 39 = some i) (hz : i.zero = some z)
    (hsize : i.size = 3) (hby : i.bytes = bytes) (hzs : z.cells.size = 3)
    (v : Value) (gs : List Rg) (g : Rg) (n : Nat) (hn : gs.length = n) (hs : a.eval s = v) (hown : RungRow B wr v gs) (va : Value)
    (hW : W1 = wr.alloc (.cells #[va, .int .i64 g.kind, st g.name] 39)) (hx : a.eval x = .slice (some ⟨wr.heap.size, 0, none⟩) 1 1) (h1 : va.oneCell' = true)
    (hu : RepS wr (fun k => B ≤ k ∧ k < wr.heap.size ∧ v.ownBlock ≠ some k) g.cells va)
    (hn4 : n ≤ 1000000) (hb4 : bytes ≤ 1000) (hB : B ≤ wr.heap.size)
    (h : ∀ av' cv' wb, Hid (RungRow B wb (.slice av' (n + 1) cv') (gs ++ [g])) → Hid ((wr.alloc (.cells #[va, .int .i64 g.kind, st g.name] 39)).grownBy wb v.ownBlock) → K (a.put o.dst (.slice av' (n + 1) cv')) wb) :
    if Region.wanted o (yielded ops a.tmps) = true then Oper.wp P o a W1 K Q else EE := by
  subst hW hn
  rw [if_pos hw]
  obtain ⟨xs, P0, g1, g2, g3⟩ := hown
  obtain ⟨o9, ho9⟩ : ∃ o9, Obj.cells #[va, .int .i64 g.kind, st g.name] 39 = o9 := ⟨_, rfl⟩
  have hb0 : Below wr.heap.size wr (wr.alloc (.cells #[va, .int .i64 g.kind, st g.name] 39)) := (Below.refl _ _).alloc (Nat.le_refl _) _
  have hbytes : (gs.length + 1) * bytes ≤ 140737488355328 := Nat.le_trans (Nat.mul_le_mul (show gs.length + 1 ≤ 1000001 by omega) hb4) (by decide)
  obtain ⟨v', wb, hr, k1, k2, k3, k4⟩ := run_append_own_at (P := P) (wr.alloc (.cells #[va, .int .i64 g.kind, st g.name] 39)) B t o.type 39 i z 3 bytes ht hi hz hsize hby hzs (by decide) v gs.length xs (rowOld g1 hb0) ⟨wr.heap.size, 0, none⟩ 1 1 [va, .int .i64 g.kind, st g.name] rfl (fun j u hj => by rw [Addr.add_at, cell_new]; simpa using hj) (fun u hu => by
      simp only [List.mem_cons, List.not_mem_nil, or_false] at hu
      rcases hu with rfl | rfl | rfl
      · exact h1
      · rfl
      · rfl) (by unfold maxLen; omega) hbytes (Nat.le_trans hB (by simp))
  obtain ⟨av', cv', rfl⟩ := owns_slice k1
  unfold Oper.wp execOp
  simp only [ho, resolve, invoke, builtin, Sem.run_bind, Sem.run_pure, Result.andThen_ok, List.map_toArray, List.map_cons, List.map_nil, hs, hx, hr]
  have hne : ∀ k, (B ≤ k ∧ k < wr.heap.size ∧ v.ownBlock ≠ some k) → (B ≤ k ∧ k < wb.heap.size ∧ (Value.slice av' (gs.length + 1) cv').ownBlock ≠ some k) := fun k ⟨h1, h2, h3⟩ => ⟨h1, Nat.lt_of_lt_of_le h2 (Nat.le_trans hb0.size k2.size), fun e => by
    rcases k4 with h | h
    · exact h3 (h ▸ e)
    · rw [h] at e; cases e; rw [World.size_alloc] at h2; omega⟩
  have hke : ∀ k, (B ≤ k ∧ k < wr.heap.size ∧ v.ownBlock ≠ some k) → wb.heap[k]? = wr.heap[k]? := fun k ⟨h1, h2, h3⟩ => (k2.block k (Nat.lt_of_lt_of_le h2 hb0.size) (fun e => h3 e.symm)).trans (hb0.block k h2)
  refine h av' cv' wb (hid ⟨xs ++ [va, .int .i64 g.kind, st g.name], _, ?_, RungL.snoc (hu.keep fun k hk => ⟨hne k hk, hke k hk⟩) (g2.keep fun k hk => ⟨hne k (g3 k hk), hke k (g3 k hk)⟩), fun k hk => hk⟩) (hid k2)
  rw [List.length_append]
  exact k1
/-- Where Parse stands between two lines. -/
structure PS (w : World) (i : Nat) (acc : List Rg) (sb : Bs) (W : World) : Prop where
  below : Below w.heap.size w W
  row : ∃ vl, W.heap[w.heap.size]? = some (.cells #[vl] 31 (0, 0)) ∧ RungRow (w.heap.size + 8) W vl acc
  err : W.heap[w.heap.size + 1]? = some (.cells #[.nilIface] 33 (0, 0))
  pl : W.heap[w.heap.size + 2]? = some (.cells #[.int .i64 (i : Int)] 3 (0, 0))
  s : W.heap[w.heap.size + 3]? = some (.cells #[st sb] 9 (0, 0))
  sep : W.heap[w.heap.size + 4]? = some (.cells #[.string ⟨#[10]⟩] 9 (0, 0))
  sv : W.heap[w.heap.size + 5]? = some (.cells #[.int .i64 0] 3 (0, 0))
  len : sb.length ≤ 1000000
theorem PS.old {w W W' : World} {i : Nat} {acc : List Rg} {sb : Bs} (h : PS w i acc sb W) (hb : Below W.heap.size W W') : PS w i acc sb W' where
  below := h.below.trans (hb.mono h.below.size)
  row := by
    obtain ⟨vl, h1, h2⟩ := h.row
    exact ⟨vl, (hb.block _ (boxLt h1)).trans h1, h2.old hb⟩
  err := (hb.block _ (boxLt h.err)).trans h.err
  pl := (hb.block _ (boxLt h.pl)).trans h.pl
  s := (hb.block _ (boxLt h.s)).trans h.s
  sep := (hb.block _ (boxLt h.sep)).trans h.sep
  sv := (hb.block _ (boxLt h.sv)).trans h.sv
  len := h.len
theorem PS.setB {w W : World} {i : Nat} {acc : List Rg} {sb : Bs} (h : PS w i acc sb W) (b : Nat) (hb : w.heap.size ≤ b) (hb8 : b < w.heap.size + 8) (u : Value) : Below w.heap.size w (W.setCell ⟨b, 0, none⟩ u) ∧ (∀ vl, RungRow (w.heap.size + 8) W vl acc → RungRow (w.heap.size + 8) (W.setCell ⟨b, 0, none⟩ u) vl acc) :=
  ⟨h.below.setCell (p := ⟨b, 0, none⟩) hb _, fun vl hr => hr.off (fun k hk _ => heap_setCell_other _ _ _ _ (by simp only; omega)) (by simp [World.setCell])⟩
theorem PS.at' {w W : World} {i : Nat} {acc : List Rg} {sb : Bs} (h : PS w i acc sb W) : PS w (i + 1) acc sb (W.setCell ⟨w.heap.size + 2, 0, none⟩ (.int .i64 ((i + 1 : Nat) : Int))) where
  below := (h.setB (w.heap.size + 2) (by omega) (by omega) _).1
  row := by
    obtain ⟨vl, h1, h2⟩ := h.row
    exact ⟨vl, (heap_setCell_other _ _ _ _ (by simp only; omega)).trans h1, (h.setB (w.heap.size + 2) (by omega) (by omega) _).2 _ h2⟩
  err := (heap_setCell_other _ _ _ _ (by simp only; omega)).trans h.err
  pl := (boxSet h.pl 0 _).trans (by simp)
  s := (heap_setCell_other _ _ _ _ (by simp only; omega)).trans h.s
  sep := (heap_setCell_other _ _ _ _ (by simp only; omega)).trans h.sep
  sv := (heap_setCell_other _ _ _ _ (by simp only; omega)).trans h.sv
  len := h.len
theorem PS.setS {w W : World} {i : Nat} {acc : List Rg} {sb : Bs} (h : PS w i acc sb W) (sb' : Bs) (hl : sb'.length ≤ 1000000) : PS w i acc sb' (W.setCell ⟨w.heap.size + 3, 0, none⟩ (st sb')) where
  below := (h.setB (w.heap.size + 3) (by omega) (by omega) _).1
  row := by
    obtain ⟨vl, h1, h2⟩ := h.row
    exact ⟨vl, (heap_setCell_other _ _ _ _ (by simp only; omega)).trans h1, (h.setB (w.heap.size + 3) (by omega) (by omega) _).2 _ h2⟩
  err := (heap_setCell_other _ _ _ _ (by simp only; omega)).trans h.err
  pl := (heap_setCell_other _ _ _ _ (by simp only; omega)).trans h.pl
  s := (boxSet h.s 0 _).trans (by simp)
  sep := (heap_setCell_other _ _ _ _ (by simp only; omega)).trans h.sep
  sv := (heap_setCell_other _ _ _ _ (by simp only; omega)).trans h.sv
  len := hl
theorem PS.obj {w W : World} {i : Nat} {acc : List Rg} {sb : Bs} (h : PS w i acc sb W) (l : Nat) (hl : w.heap.size + 6 ≤ l) (hl8 : l < w.heap.size + 8) (o : Obj) : PS w i acc sb (W.putObj l o) where
  below := ⟨h.below.os, h.below.tape, h.below.output, by rw [World.putObj_size]; exact h.below.size, fun k hk => (World.putObj_heap_other (by omega)).trans (h.below.block k hk)⟩
  row := by
    obtain ⟨vl, h1, h2⟩ := h.row
    exact ⟨vl, (World.putObj_heap_other (by omega)).trans h1, h2.off (fun k hk _ => World.putObj_heap_other (by omega)) (by rw [World.putObj_size]; exact Nat.le_refl _)⟩
  err := (World.putObj_heap_other (by omega)).trans h.err
  pl := (World.putObj_heap_other (by omega)).trans h.pl
  s := (World.putObj_heap_other (by omega)).trans h.s
  sep := (World.putObj_heap_other (by omega)).trans h.sep
  sv := (World.putObj_heap_other (by omega)).trans h.sv
  len := h.len
theorem PS.push {w W wb : World} {i : Nat} {acc : List Rg} {g : Rg} {sb : Bs} {v' : Value} (h : PS w i acc sb W) (hb : Below w.heap.size w wb) (hk : ∀ k, k < w.heap.size + 8 → k < W.heap.size → wb.heap[k]? = W.heap[k]?) (hr : RungRow (w.heap.size + 8) wb v' (acc ++ [g])) : PS w i (acc ++ [g]) sb (wb.setCell ⟨w.heap.size, 0, none⟩ v') := by
  have hw : ∀ {k : Nat} {cs : Array Value} {T : Nat}, k < w.heap.size + 8 → k ≠ w.heap.size → W.heap[k]? = some (.cells cs T (0, 0)) → (wb.setCell ⟨w.heap.size, 0, none⟩ v').heap[k]? = some (.cells cs T (0, 0)) := fun h1 h2 h3 =>
    (heap_setCell_other _ _ _ _ h2).trans ((hk _ h1 (boxLt h3)).trans h3)
  obtain ⟨vl, h1, _⟩ := h.row
  exact {
    below := hb.setCell (p := ⟨w.heap.size, 0, none⟩) (Nat.le_refl _) _
    row := ⟨v', (boxSet ((hk _ (by omega) (boxLt h1)).trans h1) 0 _).trans (by simp), hr.off (fun k hk _ => heap_setCell_other _ _ _ _ (by simp only; omega)) (by simp [World.setCell])⟩
    err := hw (by omega) (by omega) h.err
    pl := hw (by omega) (by omega) h.pl
    s := hw (by omega) (by omega) h.s
    sep := hw (by omega) (by omega) h.sep
    sv := hw (by omega) (by omega) h.sv
    len := h.len }
theorem RungRow.base {B B' : Nat} {W : World} {v : Value} {gs : List Rg} (h : RungRow B W v gs) (hb : B' ≤ B) : RungRow B' W v gs := by
  obtain ⟨xs, P, ⟨h0, h1⟩, h2, h3⟩ := h
  exact ⟨xs, P, ⟨h0, h1.imp id fun ⟨g, cap, cur, e, hg, h⟩ => ⟨g, cap, cur, e, Nat.le_trans hb hg, h⟩⟩, h2, fun k hk => ⟨Nat.le_trans hb (h3 k hk).1, (h3 k hk).2⟩⟩
theorem PS.leave {w W : World} {i : Nat} {acc : List Rg} {sb : Bs} {vl : Value} (h : PS w i acc sb W) (hb2 : W.heap[w.heap.size]? = some (.cells #[vl] 31 (0, 0))) (hrow : RungRow (w.heap.size + 8) W vl acc) (D : Nat) (hD : w.heap.size + 6 ≤ D) (hD8 : D < w.heap.size + 8) (hk : W.heap[D]? = some (.deferred (some []))) :
    let X := (W.setCell ⟨w.heap.size, 0, none⟩ vl).setCell ⟨w.heap.size + 1, 0, none⟩ .nilIface
    Below w.heap.size w (X.putObj D (.deferred none)) ∧ X.heap[D]? = some (.deferred (some [])) ∧ (X.putObj D (.deferred none)).cell? ⟨w.heap.size, 0, none⟩ = some vl ∧ (X.putObj D (.deferred none)).cell? ⟨w.heap.size + 1, 0, none⟩ = some .nilIface ∧ RungRow w.heap.size (X.putObj D (.deferred none)) vl acc := by
  intro X
  have x2 : X.heap[w.heap.size]? = some (.cells #[vl] 31 (0, 0)) := (heap_setCell_other _ _ _ _ (by simp only; omega)).trans ((boxSet hb2 0 _).trans (by simp))
  have x3 : X.heap[w.heap.size + 1]? = some (.cells #[.nilIface] 33 (0, 0)) := (boxSet ((heap_setCell_other _ _ _ _ (by simp only; omega)).trans h.err) 0 _).trans (by simp)
  have xk : X.heap[D]? = some (.deferred (some [])) := (heap_setCell_other _ _ _ _ (by simp only; omega)).trans ((heap_setCell_other _ _ _ _ (by simp only; omega)).trans hk)
  have xb : Below w.heap.size w X := (h.below.setCell (p := ⟨w.heap.size, 0, none⟩) (Nat.le_refl _) _).setCell (p := ⟨w.heap.size + 1, 0, none⟩) (by simp only; omega) _
  have xr : RungRow (w.heap.size + 8) X vl acc := hrow.off (fun k hk _ => (heap_setCell_other _ _ _ _ (by simp only; omega)).trans (heap_setCell_other _ _ _ _ (by simp only; omega))) (by simp [X, World.setCell])
  clear_value X
  refine ⟨⟨xb.os, xb.tape, xb.output, by rw [World.putObj_size]; exact xb.size, fun k hk => (World.putObj_heap_other (by omega)).trans (xb.block k hk)⟩, xk, (cell_block ((World.putObj_heap_other (by omega)).trans x2) 0).trans rfl, (cell_block ((World.putObj_heap_other (by omega)).trans x3) 0).trans rfl, ?_⟩
  exact (xr.off (fun k hk _ => World.putObj_heap_other (by omega)) (by rw [World.putObj_size]; exact Nat.le_refl _)).base (by omega)
theorem PS.fell {w W : World} {i : Nat} {acc : List Rg} {sb : Bs} {vl : Value} (h : PS w i acc sb W) (hb2 : W.heap[w.heap.size]? = some (.cells #[vl] 31 (0, 0))) (D : Nat) (hD : w.heap.size + 6 ≤ D) (hD8 : D < w.heap.size + 8) :
    Below w.heap.size w (W.putObj D (.deferred none)) ∧ (W.putObj D (.deferred none)).cell? ⟨w.heap.size + 2, 0, none⟩ = some (.int .i64 (i : Int)) ∧ (W.putObj D (.deferred none)).heap[w.heap.size]? = some (.cells #[vl] 31 (0, 0)) ∧ (W.putObj D (.deferred none)).heap[w.heap.size + 1]? = some (.cells #[.nilIface] 33 (0, 0)) := by
  have h' := h.obj D hD hD8 (.deferred none)
  exact ⟨h'.below, (cell_block h'.pl 0).trans rfl, (World.putObj_heap_other (by omega)).trans hb2, h'.err⟩
def noDefer (ops : Array Oper) : Bool := ops.all fun o => match o.op with
  | .defer _ => false
  | _ => true
theorem noDefer_spec {ops : Array Oper} (h : noDefer ops = true) : ∀ (j : Nat) (o : Oper), ops[j]? = some o → ∀ c, o.op ≠ .defer c := by
  intro j o hj c e
  unfold noDefer at h
  rw [Array.all_eq_true_iff_forall_mem] at h
  have h1 := h o (Array.mem_of_getElem? hj)
  rw [e] at h1
  cases h1
theorem trim1_any (x : Bs) (hx : x.length ≤ 1000000) (w : World) : Calls Tryz.prog 15 #[st x, .string ⟨#[32]⟩] w fun e w' => e = .returned (st (Lib.trimB x 32)) ∧ (w' = w ∨ w' = w.drew) :=
  Tryz.strings_Trim_one ⟨x.toArray⟩ 32 (by decide) w (by rw [st_size]; omega)
theorem Tryz.infoLdRung : (Tryz.prog.info? 39).map (fun i => (i.zero, i.size, i.bytes)) = some (some (.agg #[.slice none 0 0, .int .i64 0, .string ⟨#[]⟩]), 3, 48) := by kernel_rfl
theorem RungRow.lt {B : Nat} {W : World} {v : Value} {gs : List Rg} (h : RungRow B W v gs) : ∀ k, v.ownBlock = some k → B ≤ k ∧ k < W.heap.size := by
  obtain ⟨xs, P, h1, _, _⟩ := h
  exact fun k hk => h1.lt k hk
theorem RungRow.cells {B : Nat} {W : World} {v : Value} {gs : List Rg} (h : RungRow B W v gs) : ∀ k, v.ownBlock = some k → ∃ cs, W.heap[k]? = some (.cells cs 39 (0, 0)) := by
  obtain ⟨xs, P, h1, _, _⟩ := h
  intro k hk
  rcases h1.2 with ⟨rfl, _⟩ | ⟨g, cap, cur, rfl, _, hh, _⟩
  · cases hk
  · cases hk; exact ⟨_, hh⟩
theorem below_gr {B bp : Nat} {W W4 W5 : World} (h : Below B W W4) (hB : B ≤ bp) (hBW : B ≤ W4.heap.size) (hg : Gr W4 bp W5) : Below B W W5 :=
  ⟨hg.os.trans h.os, hg.tape.trans h.tape, hg.output.trans h.output, Nat.le_trans h.size hg.size, fun k hk => (hg.block k (Nat.lt_of_lt_of_le hk hBW) (by simp; omega)).trans (h.block k hk)⟩
theorem PS.pushed {w W wb : World} {i : Nat} {acc : List Rg} {g : Rg} {sb : Bs} {o : Obj} {row : Option Nat} {v' : Value} (h : PS w i acc sb W) (hg : (W.alloc o).grownBy wb row) (hr : ∀ k, row = some k → w.heap.size + 8 ≤ k) (hx : RungRow (w.heap.size + 8) wb v' (acc ++ [g])) : PS w i (acc ++ [g]) sb (wb.setCell ⟨w.heap.size, 0, none⟩ v') := by
  have h0 : Below W.heap.size W (W.alloc o) := (Below.refl _ _).alloc (Nat.le_refl _) _
  have hk : ∀ k, k < w.heap.size + 8 → k < W.heap.size → wb.heap[k]? = W.heap[k]? := fun k h8 hW => (hg.block k (Nat.lt_of_lt_of_le hW h0.size) (fun e => by have := hr k e.symm; omega)).trans (h0.block k hW)
  refine h.push ⟨hg.os.trans (h0.os.trans h.below.os), hg.tape.trans (h0.tape.trans h.below.tape), hg.output.trans (h0.output.trans h.below.output), Nat.le_trans h.below.size (Nat.le_trans h0.size hg.size), fun k hk' => (hk k (by omega) (Nat.lt_of_lt_of_le hk' h.below.size)).trans (h.below.block k hk')⟩ hk hx
theorem mkFunc (fn : Fn) (first cap : Array Value) (w : World) : (Instr.makeFunc fn first cap).run Tryz.prog w = .ok (.func fn first cap) w := rfl
theorem seqMake_any (s : Bs) (w : World) : Calls Tryz.prog 49 #[st s, .string ⟨#[10]⟩, .int .i64 0] w fun e w' =>
    e = .returned (.func (.func 65) #[] #[.pointer (some ⟨w.heap.size + 1, 0, none⟩), .pointer (some ⟨w.heap.size, 0, none⟩), .pointer (some ⟨w.heap.size + 2, 0, none⟩)]) ∧
    w' = ((w.alloc (.cells #[st s] 9)).alloc (.cells #[.string ⟨#[10]⟩] 9)).alloc (.cells #[.int .i64 0] 3) := by
  have hmf := mkFunc
  go_enter Tryz.func49, Tryz.ntmps49
  go_wp2
  go_ret
  exact ⟨rfl, rfl⟩
theorem splitSeq_any (s : Bs) (w : World) : Calls Tryz.prog 23 #[st s, .string ⟨#[10]⟩] w fun e w' =>
    e = .returned (.func (.func 65) #[] #[.pointer (some ⟨w.heap.size + 1, 0, none⟩), .pointer (some ⟨w.heap.size, 0, none⟩), .pointer (some ⟨w.heap.size + 2, 0, none⟩)]) ∧
    w' = ((w.alloc (.cells #[st s] 9)).alloc (.cells #[.string ⟨#[10]⟩] 9)).alloc (.cells #[.int .i64 0] 3) := by
  go_enter Tryz.func23, Tryz.ntmps23
  go_wp2_with (go_at_call 49; (with_reducible refine (seqMake_any s w).mono ?_); rintro e w1 ⟨rfl, hw⟩; subst w1)
  go_ret
  exact ⟨rfl, rfl⟩
theorem PS.start (w : World) (s : Bs) (hs : s.length ≤ 1000000) : PS w 0 [] s ((((((w.alloc (.cells #[.slice none 0 0] 31)).alloc (.cells #[.nilIface] 33)).alloc (.cells #[.int .i64 0] 3)).alloc (.cells #[st s] 9)).alloc (.cells #[.string ⟨#[10]⟩] 9)).alloc (.cells #[.int .i64 0] 3)) ∧
    ((((((w.alloc (.cells #[.slice none 0 0] 31)).alloc (.cells #[.nilIface] 33)).alloc (.cells #[.int .i64 0] 3)).alloc (.cells #[st s] 9)).alloc (.cells #[.string ⟨#[10]⟩] 9)).alloc (.cells #[.int .i64 0] 3)).heap.size = w.heap.size + 6 := by
  have step : ∀ (W : World) (o : Obj), Below W.heap.size W (W.alloc o) := fun W o => (Below.refl _ _).alloc (Nat.le_refl _) _
  have new : ∀ (W : World) (o : Obj) (k : Nat), W.heap.size = k → (W.alloc o).heap[k]? = some o := fun W o k e => e ▸ heap_alloc_new W o
  have old : ∀ (W : World) (o o' : Obj) (k : Nat), W.heap[k]? = some o' → (W.alloc o).heap[k]? = some o' := fun W o o' k h => ((step W o).block k (Array.getElem?_eq_some_iff.1 h).1).trans h
  refine ⟨?_, by simp only [World.size_alloc]⟩
  refine ⟨?_, ⟨_, old _ _ _ _ (old _ _ _ _ (old _ _ _ _ (old _ _ _ _ (old _ _ _ _ (new _ _ _ rfl))))), [], fun _ => False, World.ownsRow_nil _ _ _ _, rfl, fun _ h => h.elim⟩, old _ _ _ _ (old _ _ _ _ (old _ _ _ _ (old _ _ _ _ (new _ _ _ (by simp only [World.size_alloc]))))), old _ _ _ _ (old _ _ _ _ (old _ _ _ _ (new _ _ _ (by simp only [World.size_alloc])))), old _ _ _ _ (old _ _ _ _ (new _ _ _ (by simp only [World.size_alloc]))), old _ _ _ _ (new _ _ _ (by simp only [World.size_alloc])), new _ _ _ (by simp only [World.size_alloc]), hs⟩
  have b1 := step w (.cells #[.slice none 0 0] 31)
  exact ((((((Below.refl _ _).alloc (Nat.le_refl _) _).alloc (by simp) _).alloc (by simp only [World.size_alloc]; omega) _).alloc (by simp only [World.size_alloc]; omega) _).alloc (by simp only [World.size_alloc]; omega) _).alloc (by simp only [World.size_alloc]; omega) _
theorem results_parse (tmps : Array Value) (X : World) (b2 b3 : Nat) (v u : Value) (h2 : tmps.getD 2 undef = .pointer (some ⟨b2, 0, none⟩)) (h3 : tmps.getD 3 undef = .pointer (some ⟨b3, 0, none⟩)) (c2 : X.cell? ⟨b2, 0, none⟩ = some v) (c3 : X.cell? ⟨b3, 0, none⟩ = some u) :
    (results Tryz.f6 tmps).run Tryz.prog X = .ok (.tuple #[v, u]) X := by
  have hr : Tryz.f6.results = #[.cell 2 31, .cell 3 33] := rfl
  have l2 : (loadVar 31 ⟨b2, 0, none⟩).run Tryz.prog X = .ok v X := by
    simp [loadVar, go_sem, c2]
  have l3 : (loadVar 33 ⟨b3, 0, none⟩).run Tryz.prog X = .ok u X := by
    simp [loadVar, go_sem, c3]
  have h2' : tmps[2]?.getD undef = .pointer (some ⟨b2, 0, none⟩) := by simpa using h2
  have h3' : tmps[3]?.getD undef = .pointer (some ⟨b3, 0, none⟩) := by simpa using h3
  simp [results, hr, h2', h3', asAddr, l2, l3, Sem.run_bind, Result.andThen]
theorem splitLn_len : ∀ s : Bs, (splitLn s).length ≤ s.length + 1 ∧ ∀ x ∈ splitLn s, x.length ≤ s.length
  | [] => by simp [splitLn]
  | c :: t => by
    obtain ⟨h1, h2⟩ := splitLn_len t
    unfold splitLn
    split
    · refine ⟨by simp; omega, fun x hx => ?_⟩
      simp only [List.mem_cons] at hx
      rcases hx with rfl | hx
      · simp
      · have := h2 x hx; simp; omega
    · split
      · rename_i l ls he
        rw [he] at h1 h2
        refine ⟨by simp at h1 ⊢; omega, fun x hx => ?_⟩
        simp only [List.mem_cons] at hx
        rcases hx with rfl | hx
        · have := h2 l (by simp); simp; omega
        · have := h2 x (by simp [hx]); simp; omega
      · simp
/-- What comes of a call of Parse. -/
def ParsePost (w : World) (r : ORes) (e : Ending) (w' : World) : Prop :=
  Below w.heap.size w w' ∧ match r with
    | .ok gs => ∃ v, e = .returned (.tuple #[v, .nilIface]) ∧ RungRow w.heap.size w' v gs
    | .bad x i => ∃ g, w.heap.size ≤ g ∧ e = .returned (.tuple #[.slice none 0 0, .iface 64 (.pointer (some ⟨g, 0, none⟩))]) ∧ w'.heap[g]? = some (.cells #[.int .i64 x, .int .i64 (i : Int)] 65 (0, 0))
set_option maxRecDepth 100000 in
set_option maxHeartbeats 3200000 in
theorem parse_any (s : Bs) (hs : s.length ≤ 1000000) (w : World) (hkp : Kept w) : Calls Tryz.prog 6 #[st s] w (ParsePost w (runLn (splitLn s) 0 [])) := by
  have HK := hid hkp
  have hmf := mkFunc
  refine calls_of_wpAt (n := 9) Tryz.func6 rfl ?_
  simp only [Tryz.ntmps6, List.size_toArray, List.length_cons, List.length_nil, Nat.reduceAdd, Nat.reduceSub, Array.replicate_succ, Array.replicate_zero, List.push_toArray, List.append_toArray, List.nil_append, List.cons_append]
  refine wpAt_seq (wpAt_of ?_)
  go_wp2
  refine wpAt_seq (wpAt_of ?_)
  go_wp2
  refine wpAt_seq (wpAt_of ?_)
  go_wp2
  refine wpAt_seq (wpAt_seq (wpAt_of ?_))
  go_wp2_with (go_at_call 23; (with_reducible refine (splitSeq_any s _).mono ?_); rintro e w1 ⟨rfl, hw⟩; subst w1)
  simp only [Nat.add_assoc, Nat.reduceAdd]
  refine wpAt_block ?_
  obtain ⟨hps, hsz⟩ := PS.start w s hs
  obtain ⟨res, hres⟩ : ∃ res, runLn (splitLn s) 0 [] = res := ⟨_, rfl⟩
  rw [hres]
  obtain ⟨hl1, hl2⟩ := splitLn_len s
  generalize hW0 : (w.alloc (Obj.cells #[Value.slice none 0 0] 31)).alloc (Obj.cells #[Value.nilIface] 33) = Wa at hps hsz ⊢
  generalize ((((Wa.alloc (Obj.cells #[.int .i64 0] 3)).alloc (.cells #[st s] 9)).alloc (.cells #[.string ⟨#[10]⟩] 9)).alloc (.cells #[.int .i64 0] 3)) = W0 at hps hsz ⊢
  clear hW0 Wa
  refine range_split (n := 9) Tryz.func6 (w.heap.size + 4) (w.heap.size + 3) (w.heap.size + 5) s rfl rfl
    (fun ls sb W => ∃ i acc, PS w i acc sb W ∧ runLn ls i acc = res ∧ (∀ x ∈ ls, x.length ≤ 1000000) ∧ i + ls.length ≤ 1000001 ∧ acc.length ≤ 30)
    (fun c W => ∃ x i acc sb, PS w i acc sb W ∧ res = .bad x i ∧ c = [{ v := .iface 62 (.agg #[.int .i64 x]), recovered := false }])
    ?hbox ?hset ?hobj ?hal ?h0 ?hround ?hdone ?hpanic
  case hbox =>
    rintro ls sb W ⟨i, acc, hp, _⟩
    exact ⟨(cell_block hp.sep 0).trans rfl, hp.s, (cell_block hp.sv 0).trans rfl, hp.len⟩
  case hset =>
    rintro ls sb sb' W ⟨i, acc, hp, h⟩ hl
    exact ⟨i, acc, hp.setS sb' hl, h⟩
  case hobj =>
    rintro ls sb W o' ⟨i, acc, hp, h⟩
    exact ⟨i, acc, hp.obj _ (by omega) (by omega) _, h⟩
  case hal =>
    rintro ls sb W o ⟨i, acc, hp, h⟩
    exact ⟨i, acc, hp.old ((Below.refl _ _).alloc (Nat.le_refl _) _), h⟩
  case h0 => exact ⟨0, [], hps, hres, fun x hx => Nat.le_trans (hl2 x hx) hs, by omega, by simp⟩
  case hround =>
    rintro l x ls sb W ⟨i, acc, hp, hrun, hlen, hi, ha⟩ hszW
    gi_wp2_with fail
    refine ⟨trivial, ?_⟩
    rintro W2 ⟨i, acc, hp, hrun, hlen, hi, ha⟩ hszW2
    have hxl : x.length ≤ 1000000 := hlen x (by simp)
    have HLS := hid (show ∀ y ∈ ls, y.length ≤ 1000000 from fun y hy => hlen y (by simp [hy]))
    have hi1 : i + 1 + ls.length ≤ 1000001 := by simp at hi; omega
    have HP2 := hid hp
    have HRUN := hid hrun
    have HZ2 := hid (show w.heap.size + 8 ≤ W2.heap.size by omega)
    have hi8 : i ≤ 1000000 := by omega
    have HWI := hid (show wrap64 ((i : Int) + 1) = ((i + 1 : Nat) : Int) by unfold wrap64; omega)
    have HI1 := hid hi1
    clear hp hrun hlen hi hszW2 hszW hsz hi1 hi8
    gi_wp2_with fail
    refine ⟨trivial, ?_⟩
    refine (CallsIn.inRound l (callsIn_wide.2 (trim1_any x hxl W2))).mono ?_
    rintro e W3 ⟨rfl, hw⟩
    obtain ⟨hp3, hk3, hz3⟩ : PS w i acc sb W3 ∧ KeepsOthers W2 W3 ∧ W3.heap.size = W2.heap.size := by
      rcases hw with rfl | rfl
      · exact ⟨HP2.out, KeepsOthers.refl _, rfl⟩
      · exact ⟨HP2.out.old (Below.refl _ _).drew, KeepsOthers.drew _, rfl⟩
    obtain ⟨vl, hb2, hrow⟩ := hp3.row
    obtain ⟨a1, q1, rfl⟩ := hrow.form
    have HP3 := hid hp3
    have HK3 := hid hk3
    have HROW := hid hrow
    have HB2 := hid hb2
    have HZ3 := hid (show w.heap.size + 8 ≤ W3.heap.size by rw [hz3]; exact HZ2.out)
    clear hw hp3 hk3 hz3 hrow hb2
    cases htr : Lib.trimB x 32 with
    | nil =>
      have c4 : W3.cell? ⟨w.heap.size + 2, 0, none⟩ = some (.int .i64 (i : Int)) := (cell_block HP3.out.pl 0).trans rfl
      have f4 := free_block HP3.out.pl
      have l4 := boxLt HP3.out.pl
      have HTR := hid htr
      clear htr
      gi_wp2_with fail
      refine ⟨HK3.out.trans (KeepsOthers.setCell _ _ _), i + 1, acc, ?_, ?_, HLS.out, HI1.out, ha⟩
      · rw [HWI.out]; exact HP3.out.at'
      · have h := HRUN.out
        unfold runLn at h
        rw [if_pos HTR.out] at h
        exact h
    | cons c0 t0 =>
      have HTR := hid (show Lib.trimB x 32 ≠ [] by rw [htr]; exact List.cons_ne_nil _ _)
      have c2 : W3.cell? ⟨w.heap.size, 0, none⟩ = some (.slice a1 acc.length q1) := (cell_block HB2.out 0).trans rfl
      clear htr
      by_cases h30 : acc.length = 30
      · have h30I : (acc.length : Int) = 30 := by omega
        have h30D : decide ((acc.length : Int) = 30) = true := decide_eq_true h30I
        have H30 := hid h30
        clear h30
        gi_wp2_with fail
        refine ⟨trivial, ?_⟩
        refine (CallsIn.inRound l (callsIn_wide.2 (fail_any 4 W3))).mono ?_
        rintro e W4 ⟨rfl, hw⟩
        subst hw
        refine ⟨rfl, HK3.out, 4, i, acc, sb, HP3.out, ?_, rfl⟩
        have h := HRUN.out
        unfold runLn at h
        rw [if_neg HTR.out, if_pos H30.out] at h
        exact h.symm
      · have h30D : decide ((acc.length : Int) = 30) = false := decide_eq_false (by omega)
        have h30I : ¬ (acc.length : Int) = 30 := by omega
        have HRG := hid (show (match rung x with | .ok g => runLn ls (i + 1) (acc ++ [g]) | .bad e => .bad e i) = res by
          have h := HRUN.out
          unfold runLn at h
          rw [if_neg HTR.out, if_neg h30] at h
          exact h)
        have ha29 : acc.length ≤ 29 := by omega
        clear h30
        gi_wp2_with fail
        refine wpEnds.beginR (fun w' => w'.cell? ⟨w.heap.size, 0, none⟩ = some (.slice a1 acc.length q1)) 7 (noDefer_spec (by kernel_rfl)) (fun ⟨_, _, h⟩ => h) (by kernel_rfl) c2 (fun hHeld => ?_)
        obtain ⟨i0, hi0, hz0, hz1, hz2⟩ := info_parts Tryz.infoLdRung
        obtain ⟨bp, hbp⟩ : ∃ bp, W3.heap.size = bp := ⟨_, rfl⟩
        have hbz : bp = W3.heap.size := hbp.symm
        obtain ⟨W4, hW4⟩ : ∃ W4, (W3.alloc (.cells #[st x] 71)).drew = W4 := ⟨_, rfl⟩
        have hb4 : Below W3.heap.size W3 W4 := by rw [← hW4]; exact ((Below.refl W3.heap.size W3).alloc (Nat.le_refl _) _).drew
        have hLP : LP W4 bp x := by rw [← hW4, ← hbp]; exact heap_alloc_new W3 _
        have hk4 : KeepsOthers W2 W4 := by rw [← hW4]; exact HK3.out.trans ((KeepsOthers.alloc W3 _).trans (KeepsOthers.drew _))
        have HP4 := hid (HP3.out.old hb4)
        have hkt : Kept W4 := HK.out.below HP4.out.below
        have hbp1 : bp ≠ 1 := by have := HK.out.1; have := HZ3.out; omega
        have c4 : W4.cell? ⟨w.heap.size, 0, none⟩ = some (.slice a1 acc.length q1) := (hb4.cell (p := ⟨w.heap.size, 0, none⟩) (boxLt HB2.out)).trans c2
        have HB4 := hid hb4
        have HLP := hid hLP
        have HK4 := hid hk4
        have HKT := hid hkt
        have HBZ := hid hbz
        have HW4 := hid hW4
        have HBP := hid hbp
        clear hb4 hLP hk4 hkt hbz hW4 hbp
        refine wpEnds.take 0 8 (v := ?va0) rfl (by kernel_rfl) (by kernel_rfl) (by kernel_rfl) (by kernel_rfl) (by kernel_rfl) (fun _ _ _ h => h) (by kernel_rfl) hHeld (fun w' hSw => ?hya0) ?resta0
        case hya0 => ((try dsimp only at hSw); go_simp; try with_reducible rfl)
        case resta0 =>
        (try simp only [Act.put, List.setIfInBounds_toArray, List.set_cons_zero, List.set_cons_succ])
        refine wpEnds.take 1 8 (v := ?va1) rfl (by kernel_rfl) (by kernel_rfl) (by kernel_rfl) (by kernel_rfl) (by kernel_rfl) (fun _ _ _ h => h) (by kernel_rfl) hHeld (fun w' hSw => ?hya1) ?resta1
        case hya1 => ((try dsimp only at hSw); go_simp; try with_reducible rfl)
        case resta1 =>
        (try simp only [Act.put, List.setIfInBounds_toArray, List.set_cons_zero, List.set_cons_succ])
        refine wpEnds.take 2 8 (v := ?va2) rfl (by kernel_rfl) (by kernel_rfl) (by kernel_rfl) (by kernel_rfl) (by kernel_rfl) (fun _ _ _ h => h) (by kernel_rfl) hHeld (fun w' hSw => ?hya2) ?resta2
        case hya2 => ((try dsimp only at hSw); go_simp; try with_reducible rfl)
        case resta2 =>
        (try simp only [Act.put, List.setIfInBounds_toArray, List.set_cons_zero, List.set_cons_succ])
        refine wpEnds.one 3 (by kernel_rfl) rfl (fun K hK => ?_)
        go_simp
        rw [HW4.out, HBP.out]
        refine hK.out _ _ c4 ?_
        clear hK K
        (try simp only [Act.put, List.setIfInBounds_toArray, List.set_cons_zero, List.set_cons_succ])
        refine wpEnds.one 4 (by kernel_rfl) rfl (fun K hK => ?_)
        go_simp
        (with_reducible refine (rung_any x bp hbp1 W4 HLP.out HKT.out hxl).mono ?_)
        rintro e W5 ⟨hg5, hr5⟩
        have hb5 : Below W3.heap.size W3 W5 := below_gr HB4.out (Nat.le_of_eq HBZ.out.symm) HB4.out.size hg5
        have hk5 : KeepsOthers W2 W5 := HK4.out.trans (KeepsOthers.of_grownBy hg5 (fun j o e hj => by cases e; rw [HLP.out] at hj; cases hj; rfl))
        have HP5 := hid (HP3.out.old hb5)
        cases hrg : rung x with
        | bad e5 =>
          rw [hrg] at hr5
          dsimp only at hr5
          subst hr5
          exact ⟨rfl, hk5, e5, i, acc, sb, HP5.out, by have h := HRG.out; rw [hrg] at h; exact h.symm, rfl⟩
        | ok g =>
          rw [hrg] at hr5
          obtain ⟨v5, rfl, hv5⟩ := hr5
          obtain ⟨a5, q5, rfl⟩ := hv5.form
          have HRG5 := hid (show runLn ls (i + 1) (acc ++ [g]) = res by have h := HRG.out; rw [hrg] at h; exact h)
          have HROW5 := hid (HROW.out.old hb5)
          have HB25 := hid ((hb5.block _ (boxLt HB2.out)).trans HB2.out)
          have hz5 : w.heap.size + 8 ≤ W5.heap.size := Nat.le_trans HZ3.out hb5.size
          have hz4 : W3.heap.size ≤ W4.heap.size := HB4.out.size
          have HU5 := hid (show RepS W5 (fun k => w.heap.size + 8 ≤ k ∧ k < W5.heap.size ∧ (Value.slice a1 acc.length q1).ownBlock ≠ some k) g.cells (.slice a5 g.cells.len q5) from hv5.keep fun k hk => ⟨⟨by have := hk.1; have := HZ3.out; omega, hk.2, fun e => by have := (HROW.out.lt k e).2; have := hk.1; omega⟩, rfl⟩)
          have HK5 := hid hk5
          have c5 : W5.cell? ⟨w.heap.size, 0, none⟩ = some (.slice a1 acc.length q1) := (cell_block HB25.out 0).trans rfl
          have hl5 := boxLt HB25.out
          have c6 : (W5.alloc (.cells #[.slice a5 g.cells.len q5, .int .i64 g.kind, st g.name] 39)).cell? ⟨w.heap.size, 0, none⟩ = some (.slice a1 acc.length q1) := (((Below.refl _ _).alloc (Nat.le_refl _) _).cell hl5).trans c5
          clear hrg hg5 hb5 hk5 hv5
          refine hK.out _ _ c5 ?_
          clear hK K
          (try simp only [Act.put, List.setIfInBounds_toArray, List.set_cons_zero, List.set_cons_succ])
          refine wpEnds.one 5 (by kernel_rfl) rfl (fun K hK => ?_)
          go_simp
          refine hK.out _ _ c6 ?_
          clear hK K
          (try simp only [Act.put, List.setIfInBounds_toArray, List.set_cons_zero, List.set_cons_succ])
          refine wpEnds.one 6 (by kernel_rfl) rfl (fun K hK => ?_)
          refine rungPush_held (by rfl) (w.heap.size + 8) _ W5 _ _ 31 (by rfl) i0 _ 48 Tryz.underlying31 hi0 hz0 hz1 hz2 (by rfl) (.slice a1 acc.length q1) acc g acc.length rfl (by rfl) HROW5.out (.slice a5 g.cells.len q5) rfl (by rfl) (by rfl) HU5.out (by omega) (by decide) hz5 ?_
          intro av cv wb HRX HGB
          have HBB := hid (boxOld HGB.out HB25.out (fun e => by have := (HROW.out.lt _ e).1; omega))
          have cb : wb.cell? ⟨w.heap.size, 0, none⟩ = some (.slice a1 acc.length q1) := (cell_block HBB.out 0).trans rfl
          have hbfr := free_block HBB.out
          have hblt := boxLt HBB.out
          have HPX := hid (HP5.out.pushed HGB.out (fun k e => (HROW.out.lt k e).1) HRX.out)
          have HKX := hid (HK5.out.trans ((KeepsOthers.alloc W5 _).trans (KeepsOthers.of_grownBy HGB.out (fun j o e hj => by
            obtain ⟨cs, hcs⟩ := HROW5.out.cells j e
            have hlt : j < W5.heap.size := (HROW5.out.lt j e).2
            have : (W5.alloc (.cells #[.slice a5 g.cells.len q5, .int .i64 g.kind, st g.name] 39)).heap[j]? = some (.cells cs 39 (0, 0)) := (((Below.refl _ _).alloc (Nat.le_refl _) _ : Below W5.heap.size W5 _).block j hlt).trans hcs
            rw [hj] at this
            cases this
            rfl))))
          clear HGB
          refine hK.out _ _ cb ?_
          clear hK K
          (try simp only [Act.put, List.setIfInBounds_toArray, List.set_cons_zero, List.set_cons_succ])
          refine wpEnds.last 7 (by kernel_rfl) (by kernel_rfl) rfl (fun K hK => ?_)
          go_simp
          refine hK.out _ _ ?_
          clear hK K
          (try simp only [Act.put, List.setIfInBounds_toArray, List.set_cons_zero, List.set_cons_succ])
          have HKC := hid (HKX.out.trans (KeepsOthers.setCell wb ⟨w.heap.size, 0, none⟩ (.slice av (acc.length + 1) cv)))
          generalize wb.setCell ⟨w.heap.size, 0, none⟩ (.slice av (acc.length + 1) cv) = Wc at *
          have e4 : Wc.cell? ⟨w.heap.size + 2, 0, none⟩ = some (.int .i64 (i : Int)) := (cell_block HPX.out.pl 0).trans rfl
          have g4 := free_block HPX.out.pl
          have k4 := boxLt HPX.out.pl
          gi_wp2_with fail
          refine ⟨HKC.out.trans (KeepsOthers.setCell _ _ _), i + 1, acc ++ [g], ?_, HRG5.out, HLS.out, HI1.out, by simp; omega⟩
          rw [HWI.out]
          exact HPX.out.at'
  case hdone =>
    rintro D sb W ⟨i, acc, hp, hrun, _⟩ hD hk
    have hD6 : D = w.heap.size + 6 := by omega
    subst hD6
    obtain ⟨vl, hb2, hrow⟩ := hp.row
    obtain ⟨a1, q1, rfl⟩ := hrow.form
    have HP := hid hp
    have HROW := hid hrow
    have HKD := hid hk
    have HRUN := hid hrun
    have c2 : W.cell? ⟨w.heap.size, 0, none⟩ = some (.slice a1 acc.length q1) := (cell_block hb2 0).trans rfl
    have c3 : W.cell? ⟨w.heap.size + 1, 0, none⟩ = some .nilIface := (cell_block hp.err 0).trans rfl
    have f2 := free_block hb2
    have f3 := free_block hp.err
    have b2 := boxLt hb2
    have b3 := boxLt hp.err
    have HB2 := hid hb2
    clear hp hrow hk hrun hb2 hD hsz
    refine wpAt_of ?_
    go_wp2
    obtain ⟨g1, g2, g3, g4, g5⟩ := HP.out.leave HB2.out HROW.out (w.heap.size + 6) (by omega) (by omega) HKD.out
    refine ⟨by simp, .inl ⟨_, _, rfl, run_takeDeferred g2, by simp, .inr ⟨fun h => (by cases h), _, _, _, _, rfl, enters_of Tryz.func22 (by kernel_rfl) rfl _ _, fun _ _ => trivial, (catch_idle (9 - 1) _ _ _ _).mono ?_⟩⟩⟩
    rintro e u' w' ⟨rfl, rfl, rfl⟩
    exact ⟨_, results_parse _ _ _ _ _ _ rfl rfl g3 g4, g1, by rw [← HRUN.out]; exact ⟨_, rfl, g5⟩⟩
  case hpanic =>
    rintro D c W ⟨x, i, acc, sb, hp, hr, rfl⟩ hD hk
    obtain ⟨vl, hb2, hrow⟩ := hp.row
    obtain ⟨g1, g2, g3, g4⟩ := hp.fell hb2 D (by omega) (by omega)
    refine ⟨by simp, .inl ⟨_, _, rfl, run_takeDeferred hk, by simp, .inr ⟨fun h => (by cases h), _, _, _, _, rfl, enters_of Tryz.func22 (by kernel_rfl) rfl _ _, fun _ _ => trivial, (catch_any (9 - 1) x i (w.heap.size + 2) w.heap.size (w.heap.size + 1) vl _ g2 g3 g4 (by omega) (by omega)).mono ?_⟩⟩⟩
    rintro e u' w' ⟨rfl, rfl, k1, k2, g, kg, k3, k4⟩
    have hle : w.heap.size ≤ g := Nat.le_trans (Nat.le_trans g1.size kg) (Nat.le_refl _)
    exact ⟨_, results_parse _ _ _ _ _ _ rfl rfl ((cell_block k2 0).trans rfl) ((cell_block k3 0).trans rfl), g1.trans k1, by rw [hr]; exact ⟨g, hle, rfl, k4⟩⟩
end Go.Proofs.YtlaeflpddehipabGreatDoor

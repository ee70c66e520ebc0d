/- The code's reader of a line: cells. -/
import Derived.Test.YtlaeflpddehipabGreatDoorLdLine
import Derived.Test.YtlaeflpddehipabGreatDoorEnds
set_option linter.unusedVariables false
set_option linter.unusedSimpArgs false
namespace Go.Proofs.YtlaeflpddehipabGreatDoor
open Go.RowKit
attribute [local go_sem ↓] Go.wp_at_zero Go.wp_at_succ

/-- A row of the call's own that holds ways; nothing of it lies in block bx. -/
def RowX (W w : World) (E sz : Nat) (v : Value) (t : Tr) (bx : Nat) : Prop :=
  ∃ xs P, w.ownsRow W.heap.size E sz v t.len xs ∧ RepL w P t xs ∧ (∀ k, P k → New W w k ∧ v.ownBlock ≠ some k ∧ k ≠ bx) ∧ v.ownBlock ≠ some bx
theorem RowX.rep {W w : World} {E sz bx : Nat} {v : Value} {t : Tr} (h : RowX W w E sz v t bx) : RowRep W w E sz v t := by
  obtain ⟨xs, P, h1, h2, h3, h4⟩ := h
  exact ⟨xs, P, h1, h2, fun k hk => ⟨(h3 k hk).1, (h3 k hk).2.1⟩⟩
theorem RowX.grown {W w w' : World} {E sz r bx : Nat} {v : Value} {t : Tr} (h : RowX W w E sz v t bx) (hg : w.grownBy w' (some r)) (hr : r < W.heap.size) : RowX W w' E sz v t bx := by
  obtain ⟨xs, P, h1, h2, h3, h4⟩ := h
  refine ⟨xs, P, rowKeep h1 fun k hk => hg.block k (h1.lt k hk).2 (by have := (h1.lt k hk).1; simp; omega), h2.keep fun k hk => ⟨hk, hg.block k (h3 k hk).1.2 (by have := (h3 k hk).1.1; simp; omega)⟩, fun k hk => ⟨⟨(h3 k hk).1.1, Nat.lt_of_lt_of_le (h3 k hk).1.2 hg.size⟩, (h3 k hk).2⟩, h4⟩
theorem RowX.set {W w : World} {E sz bx : Nat} {v : Value} {t : Tr} (h : RowX W w E sz v t bx) (j : Nat) (u : Value) : RowX W (w.setCell ⟨bx, j, none⟩ u) E sz v t bx := by
  obtain ⟨xs, P, h1, h2, h3, h4⟩ := h
  refine ⟨xs, P, rowKeep h1 fun k hk => heap_setCell_other _ _ _ _ (fun e => h4 (by simp only at e; rw [hk, e])), h2.keep fun k hk => ⟨hk, heap_setCell_other _ _ _ _ (h3 k hk).2.2⟩, fun k hk => ⟨⟨(h3 k hk).1.1, by simpa [World.setCell] using (h3 k hk).1.2⟩, (h3 k hk).2⟩, h4⟩
/-- One way more. -/
theorem RowX.push {W w w' : World} {E sz bx : Nat} {v v' : Value} {t u : Tr} {ys : List Value} {xs : List Value} {P : Nat → Prop} (h1 : w.ownsRow W.heap.size E sz v t.len xs) (h2 : RepL w P t xs) (h3 : ∀ k, P k → New W w k ∧ v.ownBlock ≠ some k ∧ k ≠ bx) (h4 : v.ownBlock ≠ some bx)
    (hu : RepL w (fun k => New W w k ∧ v.ownBlock ≠ some k ∧ k ≠ bx) u ys) (hg : w.grownBy w' v.ownBlock) (hrow : w'.ownsRow W.heap.size E sz v' (t.len + u.len) (xs ++ ys)) (hb : bx < w.heap.size) (hnew : v'.ownBlock = v.ownBlock ∨ ∀ k, v'.ownBlock = some k → w.heap.size ≤ k) : RowX W w' E sz v' (t.app u) bx := by
  have hne : ∀ k, New W w k ∧ v.ownBlock ≠ some k ∧ k ≠ bx → New W w' k ∧ v'.ownBlock ≠ some k ∧ k ≠ bx := fun k ⟨hk, hv, hx⟩ => by
    refine ⟨⟨hk.1, Nat.lt_of_lt_of_le hk.2 hg.size⟩, fun e => ?_, hx⟩
    rcases hnew with h | h
    · exact hv (h ▸ e)
    · have := h k e
      have := hk.2
      omega
  refine ⟨xs ++ ys, fun k => New W w' k ∧ v'.ownBlock ≠ some k ∧ k ≠ bx, by rw [Tr.len_app]; exact hrow, ?_, fun k hk => hk, ?_⟩
  · have a1 : RepL w' (fun k => New W w' k ∧ v'.ownBlock ≠ some k ∧ k ≠ bx) t xs := h2.keep fun k hk => ⟨hne k (h3 k hk), hg.block k (h3 k hk).1.2 (fun e => (h3 k hk).2.1 e.symm)⟩
    have a2 : RepL w' (fun k => New W w' k ∧ v'.ownBlock ≠ some k ∧ k ≠ bx) u ys := hu.keep fun k hk => ⟨hne k hk, hg.block k hk.1.2 (fun e => hk.2.1 e.symm)⟩
    exact a2.app a1
  · rcases hnew with h | h
    · rw [h]; exact h4
    · intro e
      have := h bx e
      omega
/-- append(ways, one more), in a region that draws its order. -/
theorem ldPush_held {P : Program} {ops : Array Oper} {o : Oper} {a : Act} {K : Act → World → Prop} {Q : Exit → Act → World → Prop} {EE : Prop} (hw : Region.wanted o (yielded ops a.tmps) = true) (W W1 wr : World) (bx : Nat) (s x : Operand) (t : TypeId)
    (ho : o.op = .call { callee := .builtin .append, args := #[s, x], argTypes := #[t, t] })
    (e : TypeId) (i : TypeInfo) (z : Value) (size bytes : Nat) (ht : P.underlying t = some (.slice e)) (hi : P.info? e = some i) (hz : i.zero = some z)
    (hsize : i.size = size) (hby : i.bytes = bytes) (hzs : z.cells.size = size) (hsz : 0 < size)
    (v : Value) (tr u : Tr) (n : Nat) (hn : tr.len = n) (hs : a.eval s = v) (hown : RowX W wr e size v tr bx)
    (cs : Array Value) (hW : W1 = wr.alloc (.cells cs e)) (hx : a.eval x = .slice (some ⟨wr.heap.size, 0, none⟩) 1 1) (hl : cs.size = size) (h1 : cs.toList.all Value.oneCell' = true)
    (hu1 : u.len = 1) (hu : RepL wr (fun k => New W wr k ∧ v.ownBlock ≠ some k ∧ k ≠ bx) u cs.toList)
    (hn4 : n ≤ 1000000) (hb4 : bytes ≤ 1000) (hB : W.heap.size ≤ wr.heap.size) (hbx : bx < wr.heap.size)
    (h : ∀ av' cv' wb, Hid (RowX W wb e size (.slice av' (n + 1) cv') (tr.app u) bx) → Hid ((wr.alloc (.cells cs e)).grownBy wb v.ownBlock) → K (a.put o.dst (.slice av' (n + 1) cv')) wb) :
    if Region.wanted o (yielded ops a.tmps) = true then Oper.wp P o a W1 K Q else EE := by
  subst hW hn
  rw [if_pos hw]
  obtain ⟨xs, P0, g1, g2, g3, g4⟩ := hown
  have hb0 : Below wr.heap.size wr (wr.alloc (.cells cs e)) := (Below.refl _ _).alloc (Nat.le_refl _) _
  have hbytes : (tr.len + 1) * bytes ≤ 140737488355328 := Nat.le_trans (Nat.mul_le_mul (show tr.len + 1 ≤ 1000001 by omega) hb4) (by decide)
  obtain ⟨v', wb, hr, k1, k2, k3, k4⟩ := run_append_own_at (P := P) (wr.alloc (.cells cs e)) W.heap.size t o.type e i z size bytes ht hi hz hsize hby hzs hsz v tr.len xs (rowOld g1 hb0) ⟨wr.heap.size, 0, none⟩ 1 1 cs.toList (by simpa using hl) (fun j u hj => by rw [Addr.add_at, cell_new]; simpa using hj) (fun u hu => List.all_eq_true.1 h1 u hu) (by unfold maxLen; omega) hbytes (Nat.le_trans hB (by simp))
  obtain ⟨av', cv', rfl⟩ := owns_slice k1
  unfold Oper.wp execOp
  simp only [ho, resolve, invoke, builtin, Sem.run_bind, Sem.run_pure, Result.andThen_ok, List.map_toArray, List.map_cons, List.map_nil, hs, hx, hr]
  refine h av' cv' wb (hid (RowX.push (w := wr.alloc (.cells cs e)) (xs := xs) (ys := cs.toList) (rowOld g1 hb0) (g2.keep fun k hk => ⟨hk, hb0.block k (g3 k hk).1.2⟩) (fun k hk => ⟨⟨(g3 k hk).1.1, Nat.lt_of_lt_of_le (g3 k hk).1.2 hb0.size⟩, (g3 k hk).2⟩) g4
      (hu.keep fun k hk => ⟨⟨⟨hk.1.1, Nat.lt_of_lt_of_le hk.1.2 hb0.size⟩, hk.2⟩, hb0.block k hk.1.2⟩) k2 (by rw [hu1]; exact k1) (Nat.lt_of_lt_of_le hbx hb0.size) (k4.imp id fun e k hk => by rw [e] at hk; cases hk; exact Nat.le_refl _))) (hid k2)
/-- A row of one way that was just made. -/
theorem RowX.made {W w : World} {v : Value} {t : Tr} {E : Nat} (h : RepS w (New W w) t v) (hW : W.heap.size ≤ w.heap.size) (bx : Nat) (hbx : w.heap.size < bx) : RowX W (w.alloc (.cells #[v] E)) E 1 (.slice (some ⟨w.heap.size, 0, none⟩) 1 1) (.way t .nil) bx := by
  have hb0 : Below w.heap.size w (w.alloc (.cells #[v] E)) := (Below.refl _ _).alloc (Nat.le_refl _) _
  obtain ⟨a, c, zs, e1, hc, h1, h2⟩ := h
  refine ⟨[v], New W w, ⟨rfl, .inr ⟨w.heap.size, 1, #[v], rfl, hW, heap_alloc_new w _, Nat.le_refl _, by decide, rfl, rfl⟩⟩, ⟨v, [], rfl, ⟨a, c, zs, e1, hc, h1.keep fun k hk => ⟨hk, hb0.block k hk.2⟩, h2.imp id fun ⟨g, cur, T, ea, hg, hh, hz⟩ => ⟨g, cur, T, ea, hg, (hb0.block g hg.2).trans hh, hz⟩⟩, rfl⟩, fun k hk => ⟨⟨hk.1, Nat.lt_of_lt_of_le hk.2 hb0.size⟩, fun e => ?_, ?_⟩, fun e => ?_⟩
  · cases e; exact Nat.lt_irrefl _ hk.2
  · have := hk.2; omega
  · cases e; exact Nat.lt_irrefl _ hbx
/-- What a call gave, as one way more. -/
theorem RepS.way {w : World} {P : Nat → Prop} {v : Value} {t : Tr} (h : RepS w P t v) {P' : Nat → Prop} (hP : ∀ k, P k → P' k) : RepL w P' (.way t .nil) [v] := by
  obtain ⟨a, c, zs, e1, hc, h1, h2⟩ := h.keep (P' := P') (w' := w) fun k hk => ⟨hP k hk, rfl⟩
  exact ⟨v, [], rfl, ⟨a, c, zs, e1, hc, h1, h2⟩, rfl⟩
theorem RepS.many {w : World} {P : Nat → Prop} {v : Value} {t : Tr} (h : RepS w P t v) {P' : Nat → Prop} (hP : ∀ k, P k → P' k) : RepL w P' (.many t .nil) [st [], .bool false, v] := by
  obtain ⟨a, c, zs, e1, hc, h1, h2⟩ := h.keep (P' := P') (w' := w) fun k hk => ⟨hP k hk, rfl⟩
  exact ⟨v, [], rfl, ⟨a, c, zs, e1, hc, h1, h2⟩, rfl⟩
/-- What comes of a call of cells. -/
def CPost (bp : Nat) (W : World) (r : Out) (e : Ending) (w' : World) : Prop :=
  Gr W bp w' ∧ match r with
    | .ok t rest => ∃ v, e = .returned v ∧ RepS w' (New W w') t v ∧ LP w' bp rest
    | .bad x => e = thrown x
theorem stop_no (c : UInt8) (h : stopB [c] = false) (w : World) : Calls Tryz.prog 66 #[.string ⟨#[124, 93, 40]⟩, .int .u8 (c.toNat : Int)] w fun e w' => e = .returned (.int .i64 (-1)) ∧ w' = w := by
  have h0 := Tryz.strings_IndexByte ⟨#[124, 93, 40]⟩ (c.toNat : Int) w
  have e : Lib.indexByte [124, 93, 40] c = -1 := by
    simp [stopB] at h
    simp [Lib.indexByte, Ne.symm h.1.1, Ne.symm h.1.2, Ne.symm (show ¬ c = 40 from h.2)]
  simp only [Int.toNat_natCast, Nat.toUInt8_eq, UInt8.ofNat_toNat] at h0
  rw [e] at h0
  exact h0
theorem stop_yes (c : UInt8) (h : stopB [c] = true) (w : World) : Calls Tryz.prog 66 #[.string ⟨#[124, 93, 40]⟩, .int .u8 (c.toNat : Int)] w fun e w' => (∃ n : Nat, e = .returned (.int .i64 (n : Int))) ∧ w' = w := by
  have h0 := Tryz.strings_IndexByte ⟨#[124, 93, 40]⟩ (c.toNat : Int) w
  have e : ∃ n : Nat, Lib.indexByte [124, 93, 40] c = (n : Int) := by
    simp [stopB] at h
    rcases h with (rfl | rfl) | rfl
    · exact ⟨0, rfl⟩
    · exact ⟨1, rfl⟩
    · exact ⟨2, rfl⟩
  simp only [Int.toNat_natCast, Nat.toUInt8_eq, UInt8.ofNat_toNat] at h0
  obtain ⟨n, e⟩ := e
  rw [e] at h0
  exact h0.mono fun e w' ⟨h1, h2⟩ => ⟨⟨n, h1⟩, h2⟩
theorem stop0 {c : UInt8} {t : Bs} {b : Bool} (h : stopB [c] = b) (hlt : 0 < (⟨(c :: t).toArray⟩ : ByteArray).size) : stopB [(⟨(c :: t).toArray⟩ : ByteArray)[0]'hlt] = b := h
/-- Behind the ways of a [. -/
def Aft (sub : Bs → Out → Prop) (l : Tr) (rw : Out) (r : Out) : Prop := match rw with
  | .bad e => r = .bad e
  | .ok ws s2 => ((bk s2).head? ≠ some 93 ∧ r = .bad 3) ∨ ∃ s3 r3, bk s2 = 93 :: s3 ∧ PRest sub s3 r3 ∧ r = r3.map (.many (.way l ws))
theorem PRest.stop {sub : Bs → Out → Prop} {s : Bs} {r : Out} (h : PRest sub s r) (hst : stopB (bk s) = true) : r = .ok .nil (bk s) := by
  cases h with
  | done => rfl
  | subBad _ t e h => rw [h] at hst; simp [stopB] at hst
  | waysBad _ t s1 l e h => rw [h] at hst; simp [stopB] at hst
  | closeBad _ t s1 s2 l ws h => rw [h] at hst; simp [stopB] at hst
  | many _ t s1 s2 s3 l ws r h => rw [h] at hst; simp [stopB] at hst
  | nameBad _ u no h =>
    rcases h with ⟨_, h⟩ | ⟨_, _, c, t, h, _, _, h2⟩
    · rw [h] at hst; simp [stopB] at hst
    · rw [h, h2] at hst; cases hst
  | one _ u no r h =>
    rcases h with ⟨_, h⟩ | ⟨_, _, c, t, h, _, _, h2⟩
    · rw [h] at hst; simp [stopB] at hst
    · rw [h, h2] at hst; cases hst
theorem PRest.brack {sub : Bs → Out → Prop} {s t : Bs} {r : Out} (h : PRest sub s r) (hb : bk s = 91 :: t) : (∃ e, sub t (.bad e) ∧ r = .bad e) ∨ ∃ l s1 rw, sub t (.ok l s1) ∧ PWays sub s1 rw ∧ Aft sub l rw r := by
  have key : ∀ t', bk s = 91 :: t' → t' = t := fun t' e => by rw [hb] at e; cases e; rfl
  cases h with
  | done _ hst => rw [hb] at hst; simp [stopB] at hst
  | subBad _ t' e h hs => rw [key t' h] at hs; exact .inl ⟨e, hs, rfl⟩
  | waysBad _ t' s1 l e h hs hw => rw [key t' h] at hs; exact .inr ⟨l, s1, _, hs, hw, rfl⟩
  | closeBad _ t' s1 s2 l ws h hs hw h2 => rw [key t' h] at hs; exact .inr ⟨l, s1, _, hs, hw, .inl ⟨h2, rfl⟩⟩
  | many _ t' s1 s2 s3 l ws r h hs hw h2 hr => rw [key t' h] at hs; exact .inr ⟨l, s1, _, hs, hw, .inr ⟨s3, r, h2, hr, rfl⟩⟩
  | nameBad _ u no h =>
    rcases h with ⟨_, h⟩ | ⟨_, _, c, t', h, _, h2, _⟩
    · rw [hb] at h; cases h
    · rw [hb] at h; cases h; exact absurd rfl h2
  | one _ u no r h =>
    rcases h with ⟨_, h⟩ | ⟨_, _, c, t', h, _, h2, _⟩
    · rw [hb] at h; cases h
    · rw [hb] at h; cases h; exact absurd rfl h2
theorem PRest.lead {sub : Bs → Out → Prop} {s : Bs} {r : Out} (h : PRest sub s r) (hst : stopB (bk s) = false) (hb : ∀ t, bk s ≠ 91 :: t) : ∃ no u, Lead s no u ∧ ((goodName (nmOf u) = false ∧ r = .bad 3) ∨ (goodName (nmOf u) = true ∧ ∃ r3, PRest sub (nmRest u) r3 ∧ r = r3.map (.one no (nmOf u)))) := by
  cases h with
  | done _ h => rw [h] at hst; cases hst
  | subBad _ t' e h hs => exact absurd h (hb _)
  | waysBad _ t' s1 l e h hs hw => exact absurd h (hb _)
  | closeBad _ t' s1 s2 l ws h hs hw h2 => exact absurd h (hb _)
  | many _ t' s1 s2 s3 l ws r h hs hw h2 hr => exact absurd h (hb _)
  | nameBad _ u no h hg => exact ⟨no, u, h, .inl ⟨hg, rfl⟩⟩
  | one _ u no r h hg hr => exact ⟨no, u, h, .inr ⟨hg, r, hr, rfl⟩⟩
theorem PWays.inv {sub : Bs → Out → Prop} {s : Bs} {r : Out} (h : PWays sub s r) : ((bk s).head? ≠ some 124 ∧ r = .ok .nil (bk s)) ∨ ∃ t, bk s = 124 :: t ∧ ((∃ e, sub t (.bad e) ∧ r = .bad e) ∨ ∃ l s1 r1, sub t (.ok l s1) ∧ PWays sub s1 r1 ∧ r = r1.map (.way l)) := by
  cases h with
  | done _ h => exact .inl ⟨h, rfl⟩
  | bad _ t e h hs => exact .inr ⟨t, h, .inl ⟨e, hs, rfl⟩⟩
  | more _ t s1 l r h hs hr => exact .inr ⟨t, h, .inr ⟨l, s1, r, hs, hr, rfl⟩⟩
theorem take_yes (s t : Bs) (c : UInt8) (hb : bk s = c :: t) (bp : Nat) (w : World) (h : LP w bp s) : Calls Tryz.prog 51 #[.pointer (some ⟨bp, 0, none⟩), .string ⟨#[c]⟩] w fun e w' => e = .returned (.bool true) ∧ LP w' bp t ∧ Gr w bp w' := by
  have h0 := take_any s [c] bp w h
  rw [hb] at h0
  have e1 : Lib.hasPrefix (c :: t) [c] = true := by simp [Lib.hasPrefix]
  have e2 : Lib.trimPrefix (c :: t) [c] = t := by simp [Lib.trimPrefix, e1]
  rw [e1, e2] at h0
  exact h0
theorem take_no (s : Bs) (c : UInt8) (hb : (bk s).head? ≠ some c) (bp : Nat) (w : World) (h : LP w bp s) : Calls Tryz.prog 51 #[.pointer (some ⟨bp, 0, none⟩), .string ⟨#[c]⟩] w fun e w' => e = .returned (.bool false) ∧ LP w' bp (bk s) ∧ Gr w bp w' := by
  have h0 := take_any s [c] bp w h
  have e1 : Lib.hasPrefix (bk s) [c] = false := by
    cases hs : bk s with
    | nil => rfl
    | cons x t =>
      rw [hs] at hb
      have hx : x ≠ c := fun e => hb (by rw [e]; rfl)
      simp [Lib.hasPrefix, List.isPrefixOf, Ne.symm hx]
  have e2 : Lib.trimPrefix (bk s) [c] = bk s := by simp [Lib.trimPrefix, e1]
  rw [e1, e2] at h0
  exact h0
/-- How long what is left of the line is. -/
def leftN (bp : Nat) (w : World) : Nat := match w.cell? ⟨bp, 0, none⟩ with
  | some (.string b) => b.size
  | _ => 0
theorem leftN_is {w : World} {bp : Nat} {s : Bs} (h : LP w bp s) : leftN bp w = s.length := by
  unfold leftN
  rw [(cell_block h 0).trans rfl]
  exact st_size s
theorem deep_any (bp : Nat) (s : Bs) (w : World) : Calls Tryz.prog 50 #[.pointer (some ⟨bp, 0, none⟩), .int .i64 9] w (CPost bp w (.bad 4)) := by
  go_enter Tryz.func50, Tryz.ntmps50
  go_wp2_with (go_at_call 24; (with_reducible refine (fail_any 4 w).mono ?_); rintro e w3 ⟨rfl, hw⟩; subst w3; unfold thrown)
  exact ⟨rfl, Gr.of w bp, rfl⟩
/-- Where the outer loop stands. -/
def CRel (k : Nat) (bp : Nat) (W : World) (s : Bs) (r : Out) (v : Value) (wr : World) : Prop :=
  ∃ s0 acc r', Gr W bp wr ∧ LP wr bp (bk s0) ∧ RowRep W wr 77 3 v acc ∧ PRest (PC k) s0 r' ∧ r = r'.map (acc.app ·) ∧ acc.tot + s0.length ≤ s.length
theorem Tr.tot_app (u : Tr) : ∀ t : Tr, (t.app u).tot = t.tot + u.tot
  | .nil => by simp [Tr.app, Tr.tot]
  | .one no nm n => by simp [Tr.app, Tr.tot, Tr.tot_app u n]; omega
  | .many ws n => by simp [Tr.app, Tr.tot, Tr.tot_app u n]; omega
  | .way l n => by simp [Tr.app, Tr.tot, Tr.tot_app u n]; omega
theorem RepS.form {w : World} {P : Nat → Prop} {t : Tr} {v : Value} (h : RepS w P t v) : ∃ a c, v = .slice a t.len c := by
  obtain ⟨a, c, zs, e, _⟩ := h
  exact ⟨a, c, e⟩
theorem RowX.below {W w w' : World} {E sz bx : Nat} {v : Value} {t : Tr} (h : RowX W w E sz v t bx) (hb : Below w.heap.size w w') : RowX W w' E sz v t bx := by
  obtain ⟨xs, P, h1, h2, h3, h4⟩ := h
  exact ⟨xs, P, rowOld h1 hb, h2.keep fun k hk => ⟨hk, hb.block k (h3 k hk).1.2⟩, fun k hk => ⟨⟨(h3 k hk).1.1, Nat.lt_of_lt_of_le (h3 k hk).1.2 hb.size⟩, (h3 k hk).2⟩, h4⟩
theorem RowX.apart {W w : World} {E sz bx b T : Nat} {v : Value} {t : Tr} {cs : Array Value} {fr : Nat × Nat} (h : RowX W w E sz v t bx) (hb : w.heap[b]? = some (.cells cs T fr)) (hT : T ≠ E) : v.ownBlock ≠ some b := by
  obtain ⟨xs, P, h1, _⟩ := h
  intro e
  rcases h1.2 with ⟨rfl, _⟩ | ⟨g, cap, cur, rfl, _, hh, _⟩
  · cases e
  · cases e
    rw [hh] at hb
    cases hb
    exact hT rfl
theorem RowX.lt {W w : World} {E sz bx : Nat} {v : Value} {t : Tr} (h : RowX W w E sz v t bx) : ∀ k, v.ownBlock = some k → W.heap.size ≤ k ∧ k < w.heap.size := h.rep.lt
theorem RowX.form {W w : World} {E sz bx : Nat} {v : Value} {t : Tr} (h : RowX W w E sz v t bx) : ∃ a c, v = .slice a t.len c := h.rep.form
/-- Where the inner loop stands. -/
def WRel (k bp : Nat) (B : World) (bx : Nat) (l : Tr) (s1 : Bs) (rw1 : Out) (wr : World) : Prop :=
  ∃ vw ws s' rw', Gr B bp wr ∧ LP wr bp s' ∧ RowX B wr 37 1 vw (.way l ws) bx ∧ wr.heap[bx]? = some (.cells #[st [], .bool false, vw] 77 (0, 0)) ∧ PWays (PC k) s' rw' ∧ rw1 = rw'.map (ws.app ·) ∧ ws.tot + s'.length ≤ s1.length
theorem WRel.start {k bp : Nat} {B w3 : World} {l : Tr} {s1 : Bs} {rw1 : Out} {v1 : Value} (hg : Gr B bp w3) (hbp : bp < B.heap.size) (hl : LP w3 bp s1) (hv : RepS w3 (New B w3) l v1) (hw : PWays (PC k) s1 rw1) :
    WRel k bp B (w3.heap.size + 1) l s1 rw1 ((w3.alloc (.cells #[v1] 37)).alloc (.cells #[.string ⟨#[]⟩, .bool false, .slice (some ⟨w3.heap.size, 0, none⟩) 1 1] 77)) := by
  have hb1 : Below w3.heap.size w3 (w3.alloc (.cells #[v1] 37)) := (Below.refl _ _).alloc (Nat.le_refl _) _
  have hb2 : Below (w3.alloc (.cells #[v1] 37)).heap.size (w3.alloc (.cells #[v1] 37)) ((w3.alloc (.cells #[v1] 37)).alloc (.cells #[.string ⟨#[]⟩, .bool false, .slice (some ⟨w3.heap.size, 0, none⟩) 1 1] 77)) := (Below.refl _ _).alloc (Nat.le_refl _) _
  have hlt : bp < w3.heap.size := Nat.lt_of_lt_of_le hbp hg.size
  refine ⟨_, .nil, s1, rw1, (hg.below hb1).below hb2, ?_, (RowX.made hv hg.size (w3.heap.size + 1) (Nat.lt_succ_self _)).below hb2, ?_, hw, (Out.map_id _ _ fun t => rfl).symm, by simp [Tr.tot]⟩
  · exact (hb2.block bp (by simp; omega)).trans ((hb1.block bp hlt).trans hl)
  · have := heap_alloc_new (w3.alloc (.cells #[v1] 37)) (.cells #[.string ⟨#[]⟩, .bool false, .slice (some ⟨w3.heap.size, 0, none⟩) 1 1] 77)
    rw [World.size_alloc] at this
    exact this
theorem WRel.step {k bp bx : Nat} {B wb : World} {l l2 ws : Tr} {s1 s4 : Bs} {rw1 r4 : Out} {vw vw' : Value} (hg : Gr B bp wb) (hbx : B.heap.size ≤ bx) (hne : bp ≠ bx) (hl : LP wb bp s4) (hr : RowX B wb 37 1 vw' ((Tr.way l ws).app (.way l2 .nil)) bx)
    (hb : wb.heap[bx]? = some (.cells #[st [], .bool false, vw] 77 (0, 0))) (hw : PWays (PC k) s4 r4) (hre : rw1 = (r4.map (.way l2)).map (ws.app ·)) (ht : (ws.app (.way l2 .nil)).tot + s4.length ≤ s1.length) :
    WRel k bp B bx l s1 rw1 (wb.setCell ⟨bx, 2, none⟩ vw') := by
  refine ⟨vw', ws.app (.way l2 .nil), s4, r4, hg.setNew hbx 2 _, (heap_setCell_other _ _ _ _ hne).trans hl, hr.set 2 _, ?_, hw, ?_, ht⟩
  · exact (boxSet hb 2 _).trans (by simp)
  · rw [hre, Out.map_map]
    congr 1
    funext t
    rw [Tr.app_assoc]
    rfl
theorem Gr.at' {W w : World} {bp b T : Nat} {cs : Array Value} (h : Gr W bp w) (hb : W.heap[b]? = some (.cells cs T (0, 0))) (hne : bp ≠ b) : w.heap[b]? = some (.cells cs T (0, 0)) :=
  (h.block b (boxLt hb) (by simp; omega)).trans hb
theorem RowRep.new {W wa w2 w5 : World} {u : Value} {acc : Tr} {E sz : Nat} (hrow : RowRep W wa E sz u acc) (hsz : W.heap.size ≤ w2.heap.size) (h2 : wa.heap.size ≤ w2.heap.size) : ∀ k, New w2 w5 k → New W w5 k ∧ u.ownBlock ≠ some k := fun k hk =>
  ⟨⟨Nat.le_trans hsz hk.1, hk.2⟩, fun e => by have := (hrow.lt k e).2; have := hk.1; omega⟩
theorem RowX.new {W wa w4 w5 : World} {u : Value} {acc : Tr} {E sz bx : Nat} (hrow : RowX W wa E sz u acc bx) (hsz : W.heap.size ≤ wa.heap.size) (h4 : wa.heap.size ≤ w4.heap.size) (hb : bx < wa.heap.size) : ∀ k, New w4 w5 k → New W w5 k ∧ u.ownBlock ≠ some k ∧ k ≠ bx := fun k hk =>
  ⟨⟨Nat.le_trans (Nat.le_trans hsz h4) hk.1, hk.2⟩, fun e => by have := (hrow.lt k e).2; have := hk.1; omega, fun e => by have := hk.1; omega⟩
theorem boxOld {w5 wb : World} {o : Obj} {row : Option Nat} {b T : Nat} {cs : Array Value} (hg : (w5.alloc o).grownBy wb row) (hb : w5.heap[b]? = some (.cells cs T (0, 0))) (hne : row ≠ some b) : wb.heap[b]? = some (.cells cs T (0, 0)) := by
  have h0 : Below w5.heap.size w5 (w5.alloc o) := (Below.refl _ _).alloc (Nat.le_refl _) _
  have hlt := boxLt hb
  exact (hg.block b (Nat.lt_of_lt_of_le hlt h0.size) (fun e => hne e.symm)).trans ((h0.block b hlt).trans hb)
theorem push_gr {W w5 wb : World} {bp : Nat} {row : Option Nat} {o : Obj} {s3 : Bs} (hg : Gr W bp w5) (hgb : (w5.alloc o).grownBy wb row) (hr : ∀ k, row = some k → W.heap.size ≤ k) (hbp : bp < W.heap.size) (hl : LP w5 bp s3) : Gr W bp wb ∧ LP wb bp s3 := by
  have hb : Below w5.heap.size w5 (w5.alloc o) := (Below.refl _ _).alloc (Nat.le_refl _) _
  refine ⟨(hg.below hb).own hgb hr, ?_⟩
  have hlt := boxLt hl
  exact (hgb.block bp (Nat.lt_of_lt_of_le hlt hb.size) (fun e => by have := hr bp e.symm; omega)).trans ((hb.block bp hlt).trans hl)
theorem CRel.push {k bp : Nat} {W wb w7 : World} {s s3 : Bs} {r r' r3 : Out} {v : Value} {acc u : Tr} (hg : Gr W bp wb) (hg7 : Gr wb bp w7) (hbp : bp < W.heap.size) (hl : LP w7 bp (bk s3)) (hrow : RowRep W wb 77 3 v (acc.app u)) (hp : PRest (PC k) s3 r3) (hre : r = r'.map (acc.app ·)) (hr' : r' = r3.map (fun t => u.app t)) (ht : acc.tot + u.tot + s3.length ≤ s.length) : CRel k bp W s r v w7 := by
  refine ⟨s3, acc.app u, r3, hg.trans' hg7, hl, hrow.grown hg7 hbp, hp, ?_, by rw [Tr.tot_app]; exact ht⟩
  rw [hre, hr', Out.map_map]
  congr 1
  funext t
  rw [Tr.app_assoc]
theorem lead_yes {s u : Bs} {c : UInt8} {t : Bs} (hb : bk s = c :: t) (h : Lead s true u) : c = 47 ∧ u = t := by
  rcases h with ⟨_, h⟩ | ⟨h, _⟩
  · rw [hb] at h; cases h; exact ⟨rfl, rfl⟩
  · cases h
theorem lead_no {s u : Bs} {c : UInt8} {t : Bs} (hb : bk s = c :: t) (h : Lead s false u) : c ≠ 47 ∧ u = bk s := by
  rcases h with ⟨h, _⟩ | ⟨_, h, c', t', h1, h2, _⟩
  · cases h
  · rw [hb] at h1; cases h1; exact ⟨h2, h⟩
theorem goodLen {u : Bs} (h : goodName u = true) : u.length ≤ 12 := by
  unfold goodName at h
  simp only [Bool.and_eq_true, decide_eq_true_eq] at h
  exact h.1.1.1.2
theorem oneL (w : World) (P : Nat → Prop) (no : Bool) (nm : Bs) : RepL w P (.one no nm .nil) [st nm, .bool no, .slice none 0 0] := ⟨[], rfl, rfl⟩
theorem Tryz.infoLdCell : (Tryz.prog.info? 77).map (fun i => (i.zero, i.size, i.bytes)) = some (some (.agg #[.string ⟨#[]⟩, .bool false, .slice none 0 0]), 3, 48) := by kernel_rfl
theorem Tryz.infoLdCells : (Tryz.prog.info? 37).map (fun i => (i.zero, i.size, i.bytes)) = some (some (.slice none 0 0), 1, 24) := by kernel_rfl
set_option maxHeartbeats 1600000 in
theorem cells_succ (k : Nat) (hk : k ≤ 8) (ih : ∀ s r, PC k s r → ∀ bp, bp ≠ 1 → ∀ w, LP w bp s → Kept w → s.length ≤ 1000000 → Calls Tryz.prog 50 #[.pointer (some ⟨bp, 0, none⟩), .int .i64 (9 - (k : Int))] w (CPost bp w r))
    (s : Bs) (r : Out) (hp : PC (k + 1) s r) (bp : Nat) (hbp : bp ≠ 1) (w : World) (h : LP w bp s) (hkp : Kept w) (hs : s.length ≤ 1000000) :
    Calls Tryz.prog 50 #[.pointer (some ⟨bp, 0, none⟩), .int .i64 (9 - ((k + 1 : Nat) : Int))] w (CPost bp w r) := by
  have IH := hid ih
  have H := hid h
  have HK := hid hkp
  have HP := hid (show PRest (PC k) s r from hp)
  clear ih h hkp hp
  obtain ⟨d, hd⟩ : ∃ d : Int, 9 - ((k + 1 : Nat) : Int) = d := ⟨_, rfl⟩
  rw [hd]
  have hd0 : 0 ≤ d := by omega
  have hd8 : ¬ (8 : Int) < d := by omega
  have hdw : IntKind.i64.wrap (d + 1) = d + 1 := by
    unfold IntKind.wrap
    simp [IntKind.bits, IntKind.signed]
    omega
  have HD := hid (show 9 - (k : Int) = d + 1 by omega)
  rw [HD.out] at IH
  clear hd
  have hbpw := boxLt H.out
  go_enter Tryz.func50, Tryz.ntmps50
  go_wp2_with (go_at_call 53; (with_reducible refine (blanks_any s bp w H.out).mono ?_); rintro e w1 ⟨rfl, h1, hg⟩; have H1 := hid h1; have HG := hid hg; clear h1 hg)
  go_loopw [5] (CRel k bp w s r) (fun _ wr => leftN bp wr)
  case atStart =>
    exact ⟨s, .nil, r, HG.out, H1.out, RowRep.nil _ _ _ _, HP.out, (Out.map_id r _ (fun t => rfl)).symm, by simp [Tr.tot]⟩
  case round =>
    rename World => wa
    obtain ⟨s0, acc, r', hgr, hl, hrow, hpr, hre, htot⟩ := hrel
    have HGR := hid hgr
    have HKR := hid (HK.out.gr hgr hbp)
    have HL := hid hl
    have HROW := hid hrow
    have HRE := hid hre
    have c0 : wa.cell? ⟨bp, 0, none⟩ = some (st (bk s0)) := (cell_block hl 0).trans rfl
    have hfr := free_block hl
    have hlt := boxLt hl
    clear hgr hl hrow hre
    cases hb : bk s0 with
    | nil =>
      have HEND : Hid (CPost bp w r (.returned u5) wa) := hid (by
        rw [HRE.out, hpr.stop (by rw [hb]; rfl)]
        exact ⟨HGR.out, u5, rfl, by simpa only [Tr.app_nil] using HROW.out.slice, HL.out⟩)
      rw [hb] at c0
      go_wp2_with fail
      go_ret
      exact HEND.out
    | cons c t =>
      cases hst : stopB [c] with
      | true =>
        have HEND : Hid (CPost bp w r (.returned u5) wa) := hid (by
          rw [HRE.out, hpr.stop (by rw [hb]; exact hst)]
          exact ⟨HGR.out, u5, rfl, by simpa only [Tr.app_nil] using HROW.out.slice, HL.out⟩)
        rw [hb] at c0
        clear hb
        go_wp2_with (go_at_call 66; (with_reducible refine (stop_yes _ (stop0 hst _) wa).mono ?_); rintro e w1 ⟨⟨n, rfl⟩, hw⟩; subst w1; (have hn : ¬ (n : Int) < 0 := by omega))
        go_ret
        exact HEND.out
      | false =>
        have hlen : t.length + 1 ≤ s0.length := by have := bk_len s0; rw [hb] at this; simpa using this
        have hbb : bk (bk s0) = c :: t := by rw [bk_bk, hb]
        by_cases h91 : c = 91
        · subst h91
          have HBB := hid hbb
          have HT := hid (show t.length ≤ 1000000 by omega)
          rw [hb] at c0
          rcases hpr.brack hb with ⟨e0, hsub, rfl⟩ | ⟨l, s1, rw1, hsub, hways, haft⟩
          · have HS := hid hsub
            clear hsub hb hbb hpr hlen htot
            go_wp2_with (first
              | (go_at_call 66; (with_reducible refine (stop_no _ (stop0 hst _) wa).mono ?_); rintro e w1 ⟨rfl, hw⟩; subst w1)
              | (go_at_call 51; (with_reducible refine (take_yes (bk s0) t 91 HBB.out bp wa HL.out).mono ?_); rintro e w2 ⟨rfl, h2, hg2⟩; have H2 := hid h2; have HG2 := hid hg2; clear h2 hg2)
              | (go_at_call 50; (with_reducible refine (IH.out t _ HS.out bp hbp w2 H2.out (HKR.out.gr HG2.out hbp) HT.out).mono ?_); rintro e w3 ⟨hg3, hx⟩; dsimp only at hx; subst hx; unfold thrown))
            exact ⟨rfl, (HGR.out.trans' HG2.out).trans' hg3, by rw [HRE.out]; rfl⟩
          · have HS := hid hsub
            have HW := hid hways
            have HA := hid haft
            have hsh := PC.shrinks k _ _ _ hsub
            clear hsub hways haft hb hbb hpr
            go_wp2_with (first
              | (go_at_call 66; (with_reducible refine (stop_no _ (stop0 hst _) wa).mono ?_); rintro e w1 ⟨rfl, hw⟩; subst w1)
              | (go_at_call 51; (with_reducible refine (take_yes (bk s0) t 91 HBB.out bp wa HL.out).mono ?_); rintro e w2 ⟨rfl, h2, hg2⟩; have H2 := hid h2; have HG2 := hid hg2; clear h2 hg2)
              | (go_at_call 50; (with_reducible refine (IH.out t _ HS.out bp hbp w2 H2.out (HKR.out.gr HG2.out hbp) HT.out).mono ?_); rintro e w3 ⟨hg3, v1, rfl, hv1, hl3⟩; obtain ⟨a1, q1, rfl⟩ := hv1.form; have HG3 := hid hg3; have HV1 := hid hv1; have HL3 := hid hl3; clear hg3 hv1 hl3))
            have hw2 : w.heap.size ≤ w2.heap.size := Nat.le_trans HGR.out.size HG2.out.size
            have hbp2 : bp < w2.heap.size := Nat.lt_of_lt_of_le hlt HG2.out.size
            obtain ⟨bx, hbx⟩ : ∃ bx, w3.heap.size + 1 = bx := ⟨_, rfl⟩
            have HBX := hid hbx
            rw [hbx]
            clear hbx
            go_loopw [] (WRel k bp w2 bx l s1 rw1) (fun wx => leftN bp wx)
            case atStart => rw [← HBX.out]; exact WRel.start HG3.out hbp2 HL3.out HV1.out HW.out
            case round =>
              rename World => wi
              obtain ⟨vw, ws, s', rw', jg, jl, jr, jb, jw, je, jt⟩ := hrel
              obtain ⟨aw, qw, rfl⟩ := jr.form
              have JG := hid jg
              have JL := hid jl
              have JR := hid jr
              have JB := hid jb
              have JE := hid je
              have JK := hid (HKR.out.gr (HG2.out.trans' jg) hbp)
              have hbxlt := boxLt jb
              have hw2bx : w2.heap.size ≤ bx := by have := HG3.out.size; have := HBX.out; omega
              have hbne : bp ≠ bx := by have := HG3.out.size; have := HBX.out; omega
              clear jg jl jr jb je
              rcases jw.inv with ⟨hne, rfl⟩ | ⟨t2, hb2, hsub2⟩
              · have HNE := hid hne
                have ha : Aft (PC k) l (.ok ws (bk s')) r' := by
                  have h := HA.out
                  rw [JE.out] at h
                  simpa only [Out.map, Tr.app_nil] using h
                clear hne jw
                rcases ha with ⟨hne3, rfl⟩ | ⟨s3, r3, hb3, hr3, rfl⟩
                · have HNE3 := hid hne3
                  clear hne3
                  go_wp2_with (first
                    | (go_at_call 51; (with_reducible refine (take_no s' 124 HNE.out bp wi JL.out).mono ?_); rintro e w4 ⟨rfl, h4, hg4⟩; have H4 := hid h4; have HG4 := hid hg4; clear h4 hg4)
                    | (go_at_call 51; (with_reducible refine (take_no (bk s') 93 HNE3.out bp w4 H4.out).mono ?_); rintro e w5 ⟨rfl, h5, hg5⟩; have H5 := hid h5; have HG5 := hid hg5; clear h5 hg5)
                    | (go_at_call 24; (with_reducible refine (fail_any 3 w5).mono ?_); rintro e w6 ⟨rfl, hw⟩; subst w6; unfold thrown))
                  exact ⟨rfl, (((HGR.out.trans' HG2.out).trans' JG.out).trans' HG4.out).trans' HG5.out, by rw [HRE.out]; rfl⟩
                · have HB3 := hid hb3
                  have HR3 := hid hr3
                  have hl3 : s3.length + 1 ≤ s'.length := by
                    have h1 := bk_len s'
                    have h2 := bk_len (bk s')
                    rw [hb3] at h2
                    simp at h2
                    omega
                  have hTOT := hid (show acc.tot + (Tr.many (.way l ws) .nil).tot + s3.length ≤ s.length ∧ s3.length ≤ t.length by simp [Tr.tot]; omega)
                  obtain ⟨i0, hi, hz0, hz1, hz2⟩ := info_parts Tryz.infoLdCell
                  have hacc : acc.len ≤ 1000000 := by have := acc.len_tot; omega
                  clear hb3 hr3 hl3
                  go_wp2_with (first
                    | (go_at_call 51; (with_reducible refine (take_no s' 124 HNE.out bp wi JL.out).mono ?_); rintro e w4 ⟨rfl, h4, hg4⟩; have H4 := hid h4; have HG4 := hid hg4; clear h4 hg4)
                    | (go_at_call 51; (with_reducible refine (take_yes (bk s') s3 93 HB3.out bp w4 H4.out).mono ?_); rintro e w5 ⟨rfl, h5, hg5⟩; have H5 := hid h5; have HG5 := hid (HG4.out.trans' hg5); have hx5 := HG5.out.at' JB.out hbne; (have cx0 : w5.cell? ⟨bx, 0, none⟩ = some (st []) := (cell_block hx5 0).trans rfl); (have cx1 : w5.cell? ⟨bx, 1, none⟩ = some (.bool false) := (cell_block hx5 1).trans rfl); (have cx2 : w5.cell? ⟨bx, 2, none⟩ = some (.slice aw (Tr.way l ws).len qw) := (cell_block hx5 2).trans rfl); have hlx := boxLt hx5; have HROW5 := hid (HROW.out.grown ((HG2.out.trans' JG.out).trans' HG5.out) hbpw); have HU5 := hid ((JR.out.grown HG5.out hbp2).rep.slice); have HG6 := hid (((HGR.out.trans' HG2.out).trans' JG.out).trans' HG5.out); clear h5 hg5 hx5)
                    | (at_builtin; refine ldPush w _ w5 rfl _ _ 37 rfl 77 i0 _ 3 48 Tryz.underlying37 hi hz0 hz1 hz2 rfl (by decide) u5 acc (.many (.way l ws) .nil) acc.len rfl rfl HROW5.out _ rfl rfl rfl rfl rfl (HU5.out.many (HROW.out.new hw2 HG2.out.size)) hacc (by decide) HG6.out.size ?_; intro av cv wb HRW HGB; have HP6 := hid (push_gr HG6.out HGB.out (fun k hk => (HROW.out.lt k hk).1) hbpw H5.out); clear HGB)
                    | (go_at_call 53; (with_reducible refine (blanks_any s3 bp wb HP6.out.2).mono ?_); rintro e w7 ⟨rfl, h7, hg7⟩; have H7 := hid h7; have HG7 := hid hg7; clear h7 hg7))
                  go_roundw
                  case rel => exact CRel.push HP6.out.1 HG7.out hbpw H7.out HRW.out HR3.out HRE.out rfl hTOT.out.1
                  case measure =>
                    rw [leftN_is H7.out, leftN_is HL.out]
                    have h1 := bk_len s3
                    have h2 := HBB.out
                    rw [bk_bk] at h2
                    have h3 := hTOT.out.2
                    rw [h2, List.length_cons]
                    omega
              · have HB2 := hid hb2
                have ht2 : t2.length + 1 ≤ s'.length := by
                  have h1 := bk_len s'
                  rw [hb2] at h1
                  simpa using h1
                have HT2 := hid (show t2.length ≤ 1000000 by omega)
                clear hb2 jw
                rcases hsub2 with ⟨e0, hs2, rfl⟩ | ⟨l2, s4, r4, hs2, hw4, rfl⟩
                · have HS2 := hid hs2
                  have hrb : r' = .bad e0 := by
                    have h := HA.out
                    rw [JE.out] at h
                    exact h
                  have HRB := hid hrb
                  clear hs2 hrb
                  go_upto_region 11 with (go_at_call 51; (with_reducible refine (take_yes s' t2 124 HB2.out bp wi JL.out).mono ?_); rintro e w4 ⟨rfl, h4, hg4⟩; have H4 := hid h4; have HG4 := hid hg4; have hx4 := hg4.at' JB.out hbne; have HX4 := hid hx4; (have c2 : w4.cell? ⟨bx, 2, none⟩ = some (.slice aw (Tr.way l ws).len qw) := (cell_block hx4 2).trans rfl); clear h4 hg4 hx4)
                  refine wpEnds.begin (fun w' => w'.cell? ⟨bx, 2, none⟩ = some (.slice aw (Tr.way l ws).len qw)) 9 (by kernel_rfl) c2 (fun hHeld => ?_)
                  have H4D := hid (show LP w4.drew bp t2 from H4.out)
                  refine wpEnds.take 0 10 (v := ?va0) rfl (by kernel_rfl) (by kernel_rfl) (by kernel_rfl) (by kernel_rfl) (by kernel_rfl) (fun _ _ _ h => h) (by kernel_rfl) hHeld (fun w' hSw => ?hya0) ?resta0
                  case hya0 => ((try dsimp only at hSw); go_simp; try with_reducible rfl)
                  case resta0 =>
                  (try simp only [Act.put, List.setIfInBounds_toArray, List.set_cons_zero, List.set_cons_succ])
                  refine wpEnds.take 1 10 (v := ?va1) rfl (by kernel_rfl) (by kernel_rfl) (by kernel_rfl) (by kernel_rfl) (by kernel_rfl) (fun _ _ _ h => h) (by kernel_rfl) hHeld (fun w' hSw => ?hya1) ?resta1
                  case hya1 => ((try dsimp only at hSw); go_simp; try with_reducible rfl)
                  case resta1 =>
                  (try simp only [Act.put, List.setIfInBounds_toArray, List.set_cons_zero, List.set_cons_succ])
                  refine wpEnds.take 2 10 (v := ?va2) rfl (by kernel_rfl) (by kernel_rfl) (by kernel_rfl) (by kernel_rfl) (by kernel_rfl) (fun _ _ _ h => h) (by kernel_rfl) hHeld (fun w' hSw => ?hya2) ?resta2
                  case hya2 => ((try dsimp only at hSw); go_simp; try with_reducible rfl)
                  case resta2 =>
                  (try simp only [Act.put, List.setIfInBounds_toArray, List.set_cons_zero, List.set_cons_succ])
                  refine wpEnds.take 3 10 (v := ?va3) rfl (by kernel_rfl) (by kernel_rfl) (by kernel_rfl) (by kernel_rfl) (by kernel_rfl) (fun _ _ _ h => h) (by kernel_rfl) hHeld (fun w' hSw => ?hya3) ?resta3
                  case hya3 => ((try dsimp only at hSw); go_simp; try with_reducible rfl)
                  case resta3 =>
                  (try simp only [Act.put, List.setIfInBounds_toArray, List.set_cons_zero, List.set_cons_succ])
                  refine wpEnds.take 4 10 (v := ?va4) rfl (by kernel_rfl) (by kernel_rfl) (by kernel_rfl) (by kernel_rfl) (by kernel_rfl) (fun _ _ _ h => h) (by kernel_rfl) hHeld (fun w' hSw => ?hya4) ?resta4
                  case hya4 => ((try dsimp only at hSw); go_simp; try with_reducible rfl)
                  case resta4 =>
                  (try simp only [Act.put, List.setIfInBounds_toArray, List.set_cons_zero, List.set_cons_succ])
                  refine wpEnds.one 5 (by kernel_rfl) rfl (fun K hK => ?_)
                  go_simp
                  (with_reducible refine (IH.out t2 _ HS2.out bp hbp w4.drew H4D.out (JK.out.gr HG4.out.drew hbp) HT2.out).mono ?_)
                  rintro e w5 ⟨hg5, hx⟩
                  dsimp only at hx
                  subst hx
                  exact ⟨rfl, (((HGR.out.trans' HG2.out).trans' JG.out).trans' HG4.out.drew).trans' hg5, by rw [HRE.out, HRB.out]; rfl⟩
                · have HS2 := hid hs2
                  have HW4 := hid hw4
                  have hsh2 := PC.shrinks k _ _ _ hs2
                  obtain ⟨i1, hi1, hy0, hy1, hy2⟩ := info_parts Tryz.infoLdCells
                  have hTOT := hid (show (ws.app (.way l2 .nil)).tot + s4.length ≤ s1.length ∧ s4.length < s'.length by rw [Tr.tot_app]; simp [Tr.tot]; omega)
                  have hwl : (Tr.way l ws).len ≤ 1000000 := by
                    have h1 := ws.len_tot
                    simp only [Tr.len]
                    omega
                  clear hs2 hw4
                  go_upto_region 11 with (go_at_call 51; (with_reducible refine (take_yes s' t2 124 HB2.out bp wi JL.out).mono ?_); rintro e w4 ⟨rfl, h4, hg4⟩; have H4 := hid h4; have HG4 := hid hg4; have hx4 := hg4.at' JB.out hbne; have HX4 := hid hx4; (have c2 : w4.cell? ⟨bx, 2, none⟩ = some (.slice aw (Tr.way l ws).len qw) := (cell_block hx4 2).trans rfl); clear h4 hg4 hx4)
                  refine wpEnds.begin (fun w' => w'.cell? ⟨bx, 2, none⟩ = some (.slice aw (Tr.way l ws).len qw)) 9 (by kernel_rfl) c2 (fun hHeld => ?_)
                  have H4D := hid (show LP w4.drew bp t2 from H4.out)
                  refine wpEnds.take 0 10 (v := ?vb0) rfl (by kernel_rfl) (by kernel_rfl) (by kernel_rfl) (by kernel_rfl) (by kernel_rfl) (fun _ _ _ h => h) (by kernel_rfl) hHeld (fun w' hSw => ?hyb0) ?restb0
                  case hyb0 => ((try dsimp only at hSw); go_simp; try with_reducible rfl)
                  case restb0 =>
                  (try simp only [Act.put, List.setIfInBounds_toArray, List.set_cons_zero, List.set_cons_succ])
                  refine wpEnds.take 1 10 (v := ?vb1) rfl (by kernel_rfl) (by kernel_rfl) (by kernel_rfl) (by kernel_rfl) (by kernel_rfl) (fun _ _ _ h => h) (by kernel_rfl) hHeld (fun w' hSw => ?hyb1) ?restb1
                  case hyb1 => ((try dsimp only at hSw); go_simp; try with_reducible rfl)
                  case restb1 =>
                  (try simp only [Act.put, List.setIfInBounds_toArray, List.set_cons_zero, List.set_cons_succ])
                  refine wpEnds.take 2 10 (v := ?vb2) rfl (by kernel_rfl) (by kernel_rfl) (by kernel_rfl) (by kernel_rfl) (by kernel_rfl) (fun _ _ _ h => h) (by kernel_rfl) hHeld (fun w' hSw => ?hyb2) ?restb2
                  case hyb2 => ((try dsimp only at hSw); go_simp; try with_reducible rfl)
                  case restb2 =>
                  (try simp only [Act.put, List.setIfInBounds_toArray, List.set_cons_zero, List.set_cons_succ])
                  refine wpEnds.take 3 10 (v := ?vb3) rfl (by kernel_rfl) (by kernel_rfl) (by kernel_rfl) (by kernel_rfl) (by kernel_rfl) (fun _ _ _ h => h) (by kernel_rfl) hHeld (fun w' hSw => ?hyb3) ?restb3
                  case hyb3 => ((try dsimp only at hSw); go_simp; try with_reducible rfl)
                  case restb3 =>
                  (try simp only [Act.put, List.setIfInBounds_toArray, List.set_cons_zero, List.set_cons_succ])
                  refine wpEnds.take 4 10 (v := ?vb4) rfl (by kernel_rfl) (by kernel_rfl) (by kernel_rfl) (by kernel_rfl) (by kernel_rfl) (fun _ _ _ h => h) (by kernel_rfl) hHeld (fun w' hSw => ?hyb4) ?restb4
                  case hyb4 => ((try dsimp only at hSw); go_simp; try with_reducible rfl)
                  case restb4 =>
                  (try simp only [Act.put, List.setIfInBounds_toArray, List.set_cons_zero, List.set_cons_succ])
                  refine wpEnds.one 5 (by kernel_rfl) rfl (fun K hK => ?_)
                  go_simp
                  (with_reducible refine (IH.out t2 _ HS2.out bp hbp w4.drew H4D.out (JK.out.gr HG4.out.drew hbp) HT2.out).mono ?_)
                  rintro e w5 ⟨hg5, v2, rfl, hv2, hl5⟩
                  obtain ⟨a2, q2, rfl⟩ := hv2.form
                  have HG5 := hid (HG4.out.drew.trans' hg5)
                  have HX5 := hid (HG5.out.at' JB.out hbne)
                  have HV2 := hid hv2
                  have HL5 := hid hl5
                  have hsz5 : bx < w5.heap.size := boxLt HX5.out
                  have c5 : w5.cell? ⟨bx, 2, none⟩ = some (.slice aw (Tr.way l ws).len qw) := (cell_block HX5.out 2).trans rfl
                  have c6 : (w5.alloc (.cells #[.slice a2 l2.len q2] 37)).cell? ⟨bx, 2, none⟩ = some (.slice aw (Tr.way l ws).len qw) := (((Below.refl _ _).alloc (Nat.le_refl _) _).cell hsz5).trans c5
                  clear hg5 hv2 hl5
                  refine hK.out _ _ c5 ?_
                  clear hK K
                  (try simp only [Act.put, List.setIfInBounds_toArray, List.set_cons_zero, List.set_cons_succ])
                  refine wpEnds.one 6 (by kernel_rfl) rfl (fun K hK => ?_)
                  go_simp
                  refine hK.out _ _ c6 ?_
                  clear hK K
                  (try simp only [Act.put, List.setIfInBounds_toArray, List.set_cons_zero, List.set_cons_succ])
                  refine wpEnds.one 7 (by kernel_rfl) rfl (fun K hK => ?_)
                  refine ldPush_held (by rfl) w2 _ w5 bx _ _ 75 (by rfl) 37 i1 _ 1 24 Tryz.underlying75 hi1 hy0 hy1 hy2 (by rfl) (by decide) (.slice aw (Tr.way l ws).len qw) (.way l ws) (.way l2 .nil) (Tr.way l ws).len rfl (by rfl) (JR.out.grown HG5.out hbp2) #[.slice a2 l2.len q2] rfl (by rfl) (by rfl) (by rfl) rfl (HV2.out.way (JR.out.new JG.out.size HG4.out.size hbxlt)) hwl (by decide) (Nat.le_trans JG.out.size HG5.out.size) hsz5 ?_
                  intro av cv wb HRX HGB
                  have HBX2 := hid (boxOld HGB.out HX5.out (JR.out.apart JB.out (by decide)))
                  have cb : wb.cell? ⟨bx, 2, none⟩ = some (.slice aw (Tr.way l ws).len qw) := (cell_block HBX2.out 2).trans rfl
                  have hbfr := free_block HBX2.out
                  have hblt := boxLt HBX2.out
                  have HP6 := hid (push_gr (JG.out.trans' HG5.out) HGB.out (fun k hk => (JR.out.lt k hk).1) hbp2 HL5.out)
                  clear HGB
                  refine hK.out _ _ cb ?_
                  clear hK K
                  (try simp only [Act.put, List.setIfInBounds_toArray, List.set_cons_zero, List.set_cons_succ])
                  refine wpEnds.take 8 10 (v := ?vc8) rfl (by kernel_rfl) (by kernel_rfl) (by kernel_rfl) (by kernel_rfl) (by kernel_rfl) (fun _ _ _ h => h) (by kernel_rfl) cb (fun w' hSw => ?hyc8) ?restc8
                  case hyc8 => ((try dsimp only at hSw); go_simp; try with_reducible rfl)
                  case restc8 =>
                  (try simp only [Act.put, List.setIfInBounds_toArray, List.set_cons_zero, List.set_cons_succ])
                  refine wpEnds.last 9 (by kernel_rfl) (by kernel_rfl) rfl (fun K hK => ?_)
                  go_simp
                  refine hK.out _ _ ?_
                  clear hK K
                  (try simp only [Act.put, List.setIfInBounds_toArray, List.set_cons_zero, List.set_cons_succ])
                  go_wp2_with fail
                  go_roundw
                  case rel => exact WRel.step HP6.out.1 hw2bx hbne HP6.out.2 HRX.out HBX2.out HW4.out JE.out hTOT.out.1
                  case measure =>
                    rw [leftN_is ((heap_setCell_other _ _ _ _ hbne).trans HP6.out.2), leftN_is JL.out]
                    exact hTOT.out.2
        · have hb91 : ∀ t', bk s0 ≠ 91 :: t' := fun t' e => by rw [hb] at e; cases e; exact h91 rfl
          obtain ⟨no, u, hlead, hcase⟩ := hpr.lead (by rw [hb]; exact hst) hb91
          have H91 := hid (show (bk (bk s0)).head? ≠ some 91 by rw [hbb]; simpa using h91)
          have hul : u.length ≤ s0.length := by
            have h1 := bk_len s0
            cases no
            · rw [(lead_no hb hlead).2]; exact h1
            · rw [(lead_yes hb hlead).2]; omega
          have HUL := hid (show u.length ≤ 1000000 by omega)
          have hb0 := hb
          rw [hb] at c0
          rcases hcase with ⟨hgn, rfl⟩ | ⟨hgn, r3, hr3, rfl⟩
          · have HGN := hid hgn
            cases no
            · obtain ⟨hc, hu⟩ := lead_no hb hlead
              have HU := hid (show bk (bk (bk s0)) = u by rw [hu, bk_bk, bk_bk])
              have H47 := hid (show (bk (bk (bk s0))).head? ≠ some 47 by rw [bk_bk, hbb]; simpa using hc)
              clear hb hb0 hbb hb91 hlead hpr hgn hul hlen htot hc hu h91
              go_wp2_with (first
                | (go_at_call 66; (with_reducible refine (stop_no _ (stop0 hst _) wa).mono ?_); rintro e w1 ⟨rfl, hw⟩; subst w1)
                | (go_at_call 51; (with_reducible refine (take_no (bk s0) 91 H91.out bp wa HL.out).mono ?_); rintro e w2 ⟨rfl, h2, hg2⟩; have H2 := hid h2; have HG2 := hid hg2; clear h2 hg2)
                | (go_at_call 51; (with_reducible refine (take_no (bk (bk s0)) 47 H47.out bp w2 H2.out).mono ?_); rintro e w3 ⟨rfl, h3, hg3⟩; have h3' := h3; rw [HU.out] at h3'; have H3 := hid h3'; have HG3 := hid (HG2.out.trans' hg3); clear h3 h3' hg3)
                | (go_at_call 52; (with_reducible refine (name_bad u HGN.out bp hbp w3 H3.out (HKR.out.gr HG3.out hbp) HUL.out).mono ?_); rintro e w4 ⟨rfl, hg4⟩; unfold thrown))
              exact ⟨rfl, (HGR.out.trans' HG3.out).trans' hg4, by rw [HRE.out]; rfl⟩
            · obtain ⟨hc, hu⟩ := lead_yes hb hlead
              subst hu
              subst hc
              have H47 := hid (show bk (bk (bk s0)) = 47 :: u by rw [bk_bk, hbb])
              clear hb hb0 hbb hb91 hlead hpr hgn hul hlen htot h91
              go_wp2_with (first
                | (go_at_call 66; (with_reducible refine (stop_no _ (stop0 hst _) wa).mono ?_); rintro e w1 ⟨rfl, hw⟩; subst w1)
                | (go_at_call 51; (with_reducible refine (take_no (bk s0) 91 H91.out bp wa HL.out).mono ?_); rintro e w2 ⟨rfl, h2, hg2⟩; have H2 := hid h2; have HG2 := hid hg2; clear h2 hg2)
                | (go_at_call 51; (with_reducible refine (take_yes (bk (bk s0)) u 47 H47.out bp w2 H2.out).mono ?_); rintro e w3 ⟨rfl, h3, hg3⟩; have H3 := hid h3; have HG3 := hid (HG2.out.trans' hg3); clear h3 hg3)
                | (go_at_call 52; (with_reducible refine (name_bad u HGN.out bp hbp w3 H3.out (HKR.out.gr HG3.out hbp) HUL.out).mono ?_); rintro e w4 ⟨rfl, hg4⟩; unfold thrown))
              exact ⟨rfl, (HGR.out.trans' HG3.out).trans' hg4, by rw [HRE.out]; rfl⟩
          · have HGN := hid hgn
            have HR3 := hid hr3
            obtain ⟨i0, hi, hz0, hz1, hz2⟩ := info_parts Tryz.infoLdCell
            have hacc : acc.len ≤ 1000000 := by have := acc.len_tot; omega
            have hll := lead_len hlead hgn
            have hTOT := hid (show acc.tot + (Tr.one no (nmOf u) .nil).tot + (nmRest u).length ≤ s.length ∧ (bk (nmRest u)).length < (bk s0).length by
              have h1 := bk_len s0
              have h2 := bk_len (nmRest u)
              simp only [Tr.tot]
              omega)
            cases no
            · obtain ⟨hc, hu⟩ := lead_no hb hlead
              have HU := hid (show bk (bk (bk s0)) = u by rw [hu, bk_bk, bk_bk])
              have H47 := hid (show (bk (bk (bk s0))).head? ≠ some 47 by rw [bk_bk, hbb]; simpa using hc)
              clear hb hb0 hbb hb91 hlead hpr hgn hul hlen htot hc hu h91 hr3 hll
              go_wp2_with (first
                | (go_at_call 66; (with_reducible refine (stop_no _ (stop0 hst _) wa).mono ?_); rintro e w1 ⟨rfl, hw⟩; subst w1)
                | (go_at_call 51; (with_reducible refine (take_no (bk s0) 91 H91.out bp wa HL.out).mono ?_); rintro e w2 ⟨rfl, h2, hg2⟩; have H2 := hid h2; have HG2 := hid hg2; clear h2 hg2)
                | (go_at_call 51; (with_reducible refine (take_no (bk (bk s0)) 47 H47.out bp w2 H2.out).mono ?_); rintro e w3 ⟨rfl, h3, hg3⟩; have h3' := h3; rw [HU.out] at h3'; have H3 := hid h3'; have HG3 := hid (HG2.out.trans' hg3); clear h3 h3' hg3)
                | (go_at_call 52; (with_reducible refine (name_ok u HGN.out bp hbp w3 H3.out (HKR.out.gr HG3.out hbp) HUL.out).mono ?_); rintro e w4 ⟨rfl, h4, hg4⟩; have H4 := hid h4; have HG4 := hid (HG3.out.trans' hg4); have HROW4 := hid (HROW.out.grown HG4.out hbpw); have HG5 := hid (HGR.out.trans' HG4.out); clear h4 hg4)
                | (at_builtin; refine ldPush w _ w4 rfl _ _ 37 rfl 77 i0 _ 3 48 Tryz.underlying37 hi hz0 hz1 hz2 rfl (by decide) u5 acc (.one false (nmOf u) .nil) acc.len rfl rfl HROW4.out _ rfl rfl rfl rfl rfl (oneL _ _ _ _) hacc (by decide) HG5.out.size ?_; intro av cv wb HRW HGB; have HP6 := hid (push_gr HG5.out HGB.out (fun k hk => (HROW.out.lt k hk).1) hbpw H4.out); clear HGB)
                | (go_at_call 53; (with_reducible refine (blanks_any (nmRest u) bp wb HP6.out.2).mono ?_); rintro e w7 ⟨rfl, h7, hg7⟩; have H7 := hid h7; have HG7 := hid hg7; clear h7 hg7))
              go_roundw
              case rel => exact CRel.push HP6.out.1 HG7.out hbpw H7.out HRW.out HR3.out HRE.out rfl hTOT.out.1
              case measure =>
                rw [leftN_is H7.out, leftN_is HL.out]
                exact hTOT.out.2
            · obtain ⟨hc, hu⟩ := lead_yes hb hlead
              subst hu
              subst hc
              have H47 := hid (show bk (bk (bk s0)) = 47 :: u by rw [bk_bk, hbb])
              clear hb hb0 hbb hb91 hlead hpr hgn hul hlen htot h91 hr3 hll
              go_wp2_with (first
                | (go_at_call 66; (with_reducible refine (stop_no _ (stop0 hst _) wa).mono ?_); rintro e w1 ⟨rfl, hw⟩; subst w1)
                | (go_at_call 51; (with_reducible refine (take_no (bk s0) 91 H91.out bp wa HL.out).mono ?_); rintro e w2 ⟨rfl, h2, hg2⟩; have H2 := hid h2; have HG2 := hid hg2; clear h2 hg2)
                | (go_at_call 51; (with_reducible refine (take_yes (bk (bk s0)) u 47 H47.out bp w2 H2.out).mono ?_); rintro e w3 ⟨rfl, h3, hg3⟩; have H3 := hid h3; have HG3 := hid (HG2.out.trans' hg3); clear h3 hg3)
                | (go_at_call 52; (with_reducible refine (name_ok u HGN.out bp hbp w3 H3.out (HKR.out.gr HG3.out hbp) HUL.out).mono ?_); rintro e w4 ⟨rfl, h4, hg4⟩; have H4 := hid h4; have HG4 := hid (HG3.out.trans' hg4); have HROW4 := hid (HROW.out.grown HG4.out hbpw); have HG5 := hid (HGR.out.trans' HG4.out); clear h4 hg4)
                | (at_builtin; refine ldPush w _ w4 rfl _ _ 37 rfl 77 i0 _ 3 48 Tryz.underlying37 hi hz0 hz1 hz2 rfl (by decide) u5 acc (.one true (nmOf u) .nil) acc.len rfl rfl HROW4.out _ rfl rfl rfl rfl rfl (oneL _ _ _ _) hacc (by decide) HG5.out.size ?_; intro av cv wb HRW HGB; have HP6 := hid (push_gr HG5.out HGB.out (fun k hk => (HROW.out.lt k hk).1) hbpw H4.out); clear HGB)
                | (go_at_call 53; (with_reducible refine (blanks_any (nmRest u) bp wb HP6.out.2).mono ?_); rintro e w7 ⟨rfl, h7, hg7⟩; have H7 := hid h7; have HG7 := hid hg7; clear h7 hg7))
              go_roundw
              case rel => exact CRel.push HP6.out.1 HG7.out hbpw H7.out HRW.out HR3.out HRE.out rfl hTOT.out.1
              case measure =>
                rw [leftN_is H7.out, leftN_is HL.out]
                exact hTOT.out.2
/-- What cells reads, so many [ deeper at most. -/
theorem cells_any : ∀ (k : Nat), k ≤ 9 → ∀ (s : Bs) (r : Out), PC k s r → ∀ (bp : Nat), bp ≠ 1 → ∀ (w : World), LP w bp s → Kept w → s.length ≤ 1000000 → Calls Tryz.prog 50 #[.pointer (some ⟨bp, 0, none⟩), .int .i64 (9 - (k : Int))] w (CPost bp w r)
  | 0, _, s, r, h, bp, _, w, _, _, _ => by
    have : r = .bad 4 := h
    subst this
    exact deep_any bp s w
  | k + 1, hk, s, r, h, bp, hbp, w, hl, hkp, hs => cells_succ k (by omega) (fun s r h bp hbp w hl hkp hs => cells_any k (by omega) s r h bp hbp w hl hkp hs) s r h bp hbp w hl hkp hs
end Go.Proofs.YtlaeflpddehipabGreatDoor

/- Rungs in memory, to be read alone; what is known of rungs that were read; their text. -/
import Derived.Test.YtlaeflpddehipabGreatDoorRfText
set_option linter.unusedVariables false
set_option linter.unusedSimpArgs false
namespace Go.Proofs.YtlaeflpddehipabGreatDoor
open Go.RowKit

/-- A rung that was read. -/
structure Rg.wf (M : Nat) (g : Rg) : Prop where
  cells : g.cells.wf false
  tot : g.cells.tot ≤ M
  kind : g.kind = 1 ∨ g.kind = 2 ∨ g.kind = 3 ∨ g.kind = 4
  name : g.name.length ≤ 12
theorem kindOf_is (u : Bs) : (kindOf u).1 = 1 ∨ (kindOf u).1 = 2 ∨ (kindOf u).1 = 3 ∨ (kindOf u).1 = 4 := by
  rcases kind_cases u with ⟨q, _, h⟩ | ⟨q, _, h⟩ | ⟨q, _, h⟩ | ⟨_, _, _, h⟩ <;> rw [h] <;> simp
theorem rung_wf {s : Bs} {g : Rg} {M : Nat} (hs : s.length ≤ M) (h : rung s = .ok g) : g.wf M := by
  have h1 := outOf_is s
  unfold rung at h
  cases ho : outOf s with
  | bad e => rw [ho] at h; cases h
  | ok t s' =>
    rw [ho] at h h1
    have hw := PC.wf _ _ _ _ h1
    have ht := PC.shrinks _ _ _ _ h1
    have e : g.cells = t ∧ ∃ u, goodName (nmOf (kindOf u).2) = true ∧ g.kind = (kindOf u).1 ∧ g.name = nmOf (kindOf u).2 := by
      unfold rungOf at h
      split at h
      · cases h
      · rename_i t1 s1 e1
        injection e1 with e1 e2
        subst e1 e2
        split at h
        · rename_i u hb
          split at h
          · rename_i hg
            split at h
            · split at h
              · injection h with h
                subst h
                exact ⟨rfl, u, hg, rfl, rfl⟩
              · cases h
            · cases h
          · cases h
        · cases h
    obtain ⟨e1, u, hg, e2, e3⟩ := e
    exact ⟨by rw [e1]; exact hw, by rw [e1]; omega, by rw [e2]; exact kindOf_is u, by rw [e3]; exact goodLen hg⟩
theorem runLn_wf {M : Nat} : ∀ (ls : List Bs) (i : Nat) (acc gs : List Rg), (∀ l ∈ ls, l.length ≤ M) → (∀ g ∈ acc, g.wf M) → acc.length ≤ 30 → runLn ls i acc = .ok gs → (∀ g ∈ gs, g.wf M) ∧ gs.length ≤ 30
  | [], i, acc, gs, _, ha, hl, h => by
    unfold runLn at h
    injection h with h
    subst h
    exact ⟨ha, hl⟩
  | t :: ts, i, acc, gs, hM, ha, hl, h => by
    unfold runLn at h
    split at h
    · exact runLn_wf ts (i + 1) acc gs (fun l hl => hM l (List.mem_cons_of_mem _ hl)) ha hl h
    · split at h
      · cases h
      · rename_i h30
        cases hr : rung t with
        | bad e => rw [hr] at h; cases h
        | ok g =>
          rw [hr] at h
          refine runLn_wf ts (i + 1) (acc ++ [g]) gs (fun l hl => hM l (List.mem_cons_of_mem _ hl)) ?_ (by rw [List.length_append]; simp; omega) h
          intro g' hg'
          rw [List.mem_append, List.mem_singleton] at hg'
          rcases hg' with hg' | rfl
          · exact ha _ hg'
          · exact rung_wf (hM t (List.mem_cons_self ..)) hr
theorem parsed_wf {s : Bs} {gs : List Rg} (h : runLn (splitLn s) 0 [] = .ok gs) : (∀ g ∈ gs, g.wf s.length) ∧ gs.length ≤ 30 :=
  runLn_wf _ 0 [] gs (splitLn_len s).2 (fun _ h => by cases h) (by decide) h

/-- Rungs at a place. -/
def GAt (w : World) : List Rg → Nat → Nat → Prop
  | [], _, _ => True
  | r :: gs, g, o => (∃ v, w.cell? ⟨g, o, none⟩ = some v ∧ SAt w r.cells v) ∧ w.cell? ⟨g, o + 1, none⟩ = some (.int .i64 r.kind) ∧ w.cell? ⟨g, o + 2, none⟩ = some (st r.name) ∧ GAt w gs g (o + 3)
def GSAt (w : World) (gs : List Rg) (v : Value) : Prop := ∃ a c, v = .slice a gs.length c ∧ gs.length ≤ c ∧ (gs.length = 0 ∨ ∃ g, a = some ⟨g, 0, none⟩ ∧ GAt w gs g 0)
theorem GAt.keep {w w' : World} (h : ∀ (a : Addr) (v : Value), w.cell? a = some v → w'.cell? a = some v) : ∀ {gs : List Rg} {g o : Nat}, GAt w gs g o → GAt w' gs g o
  | [], _, _, _ => trivial
  | r :: gs, _, _, ⟨⟨v, h1, h2⟩, h3, h4, h5⟩ => ⟨⟨v, h _ _ h1, h2.keep h⟩, h _ _ h3, h _ _ h4, GAt.keep h h5⟩
theorem GSAt.keep {w w' : World} (h : ∀ (a : Addr) (v : Value), w.cell? a = some v → w'.cell? a = some v) {gs : List Rg} {v : Value} (hs : GSAt w gs v) : GSAt w' gs v := by
  obtain ⟨a, c, e, hc, h5⟩ := hs
  exact ⟨a, c, e, hc, h5.imp id fun ⟨g', e, hg⟩ => ⟨g', e, hg.keep h⟩⟩
theorem GSAt.below {w w' : World} {gs : List Rg} {v : Value} (hs : GSAt w gs v) (hb : Below w.heap.size w w') : GSAt w' gs v := hs.keep fun a v h => (hb.cell (boxLt4 h)).trans h
theorem RungL.at' {w : World} {P : Nat → Prop} : ∀ {gs : List Rg} {xs : List Value} {g o : Nat}, RungL w P gs xs → (∀ (j : Nat) (u : Value), xs[j]? = some u → w.cell? ⟨g, o + j, none⟩ = some u) → GAt w gs g o
  | [], _, _, _, _, _ => trivial
  | r :: gs, _, g, o, ⟨v, ys, e, h1, h2⟩, h => by
    subst e
    refine ⟨⟨v, h 0 v rfl, h1.at'⟩, h 1 _ rfl, h 2 _ rfl, RungL.at' h2 fun j u hj => ?_⟩
    have := h (j + 3) u (by simpa using hj)
    rwa [show o + (j + 3) = o + 3 + j by omega] at this
theorem RungRow.at' {B : Nat} {W : World} {v : Value} {gs : List Rg} (h : RungRow B W v gs) : GSAt W gs v := by
  obtain ⟨xs, P, h1, h2, _⟩ := h
  rcases h1.2 with ⟨rfl, h0⟩ | ⟨g, cap, cur, rfl, h3, h4, h5, h6⟩
  · exact ⟨none, 0, by rw [h0], by omega, .inl h0⟩
  · refine ⟨some ⟨g, 0, none⟩, cap, rfl, by omega, .inr ⟨g, rfl, h2.at' fun j u hj => ?_⟩⟩
    have := h1.cells (g := g) rfl j u hj
    rw [Addr.add_at] at this
    rw [Nat.zero_add]
    exact this
theorem RungRowR.at' {B : Nat} {W : World} {v : Value} {gs : List Rg} (h : RungRowR B W v gs) : GSAt W gs v := by
  obtain ⟨xs, P, h1, h2, _⟩ := h
  rcases h1.2 with ⟨rfl, h0⟩ | ⟨g, cap, cur, rfl, h3, h4, h5, h6⟩
  · exact ⟨none, 0, by rw [h0], by omega, .inl h0⟩
  · refine ⟨some ⟨g, 0, none⟩, cap, rfl, by omega, .inr ⟨g, rfl, h2.at' fun j u hj => ?_⟩⟩
    have := h1.cells (g := g) rfl j u hj
    rw [Addr.add_at] at this
    rw [Nat.zero_add]
    exact this
/-- A rung at a place, and the rest. -/
theorem GAt.parts {w : World} : ∀ {gs : List Rg} {g o k : Nat} {r : Rg}, GAt w gs g o → gs[k]? = some r → (∃ v, w.cell? ⟨g, o + k * 3, none⟩ = some v ∧ SAt w r.cells v) ∧ w.cell? ⟨g, o + k * 3 + 1, none⟩ = some (.int .i64 r.kind) ∧ w.cell? ⟨g, o + k * 3 + 2, none⟩ = some (st r.name)
  | [], _, _, _, _, _, h => by simp at h
  | r0 :: gs, g, o, 0, r, ⟨h1, h2, h3, _⟩, h => by
    simp at h
    subst h
    simpa using ⟨h1, h2, h3⟩
  | r0 :: gs, g, o, k + 1, r, ⟨_, _, _, h4⟩, h => by
    have := GAt.parts h4 (k := k) (r := r) (by simpa using h)
    rwa [show o + 3 + k * 3 = o + (k + 1) * 3 by omega] at this
def ktext (k : Int) : Bs := if k = 2 then [47] else if k = 3 then [83, 32] else if k = 4 then [82, 32] else []
def rtext (g : Rg) : Bs := (if g.cells.len = 0 then [] else ctext g.cells ++ [32]) ++ (40 :: (ktext g.kind ++ (g.name ++ [41, 10])))
def ptext : List Rg → Bs
  | [] => []
  | g :: gs => rtext g ++ ptext gs
theorem ptext_app (h : List Rg) : ∀ gs, ptext (gs ++ h) = ptext gs ++ ptext h
  | [] => rfl
  | g :: gs => by simp [ptext, ptext_app h gs, List.append_assoc]
theorem ktext_len (k : Int) : (ktext k).length ≤ 2 := by
  unfold ktext
  split
  · decide
  · split
    · decide
    · split <;> decide
theorem ctext_len {t : Tr} (h : t.wf false) (ht : t.tot ≤ 1000000) : (ctext t).length ≤ 16000000 := by
  have q1 := sum3_le false t h
  have q2 := join_le [32] (by simp) t.pieces
  unfold ctext
  omega
theorem rtext_len {g : Rg} (h : g.wf 1000000) : (rtext g).length ≤ 16000100 := by
  have h1 := ctext_len h.cells h.tot
  have h2 := ktext_len g.kind
  have h3 := h.name
  unfold rtext
  split
  · simp; omega
  · simp; omega
theorem ptext_len : ∀ {gs : List Rg}, (∀ g ∈ gs, g.wf 1000000) → (ptext gs).length ≤ 16000100 * gs.length
  | [], _ => Nat.le_refl _
  | g :: gs, h => by
    have h1 := rtext_len (h g (List.mem_cons_self ..))
    have h2 := ptext_len (gs := gs) fun x hx => h x (List.mem_cons_of_mem _ hx)
    simp [ptext]
    omega
theorem Rg.wf.mono {M M' : Nat} {g : Rg} (h : g.wf M) (hm : M ≤ M') : g.wf M' := ⟨h.cells, Nat.le_trans h.tot hm, h.kind, h.name⟩
end Go.Proofs.YtlaeflpddehipabGreatDoor

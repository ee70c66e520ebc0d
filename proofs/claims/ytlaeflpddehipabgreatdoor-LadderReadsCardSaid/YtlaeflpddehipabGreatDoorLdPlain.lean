/- Rungs, with no program in sight: what a line is. -/
import Derived.Lib.TrimByte
import Derived.Lib.Strings
set_option linter.unusedVariables false
namespace Go.Proofs.YtlaeflpddehipabGreatDoor
open Go

abbrev Bs := List UInt8
/-- Without leading blanks. -/
def bk (s : Bs) : Bs := Lib.trimLeftB s 32
theorem bk_bk (s : Bs) : bk (bk s) = bk s := by
  unfold bk Lib.trimLeftB
  induction s with
  | nil => rfl
  | cons c t ih =>
    by_cases h : (c == 32) = true <;> simp_all
theorem bk_len (s : Bs) : (bk s).length ≤ s.length := (List.dropWhile_sublist _).length_le
def isLow (c : UInt8) : Bool := (decide (97 ≤ c.toNat) && decide (c.toNat ≤ 122)) || decide (c.toNat = 95)
def isDig (c : UInt8) : Bool := decide (48 ≤ c.toNat) && decide (c.toNat ≤ 57)
def isNm (c : UInt8) : Bool := isLow c || isDig c
/-- Words that are no names. -/
def keptW : List Bs := ["in", "out", "var", "bool", "byte", "timer", "counter", "edge", "begin", "end", "if", "then", "elsif", "else", "and", "or", "xor", "not", "true", "false"].map fun s => s.toUTF8.toList
def goodName (s : Bs) : Bool := !s.isEmpty && decide (s.length ≤ 12) && !keptW.contains s && isLow (s.headD 0) && s.all isNm
def nmOf (s : Bs) : Bs := (bk s).takeWhile isNm
def nmRest (s : Bs) : Bs := (bk s).dropWhile isNm
/-- Cells behind one another (one, many), ways beside one another (way). -/
inductive Tr where
  | nil
  | one (no : Bool) (nm : Bs) (next : Tr)
  | many (ws : Tr) (next : Tr)
  | way (l : Tr) (next : Tr)
  deriving DecidableEq, Inhabited
def Tr.len : Tr → Nat
  | .nil => 0
  | .one _ _ n => n.len + 1
  | .many _ n => n.len + 1
  | .way _ n => n.len + 1
/-- As many bytes at least are read for it. -/
def Tr.tot : Tr → Nat
  | .nil => 0
  | .one _ nm n => 1 + (nm.length - 1) + n.tot
  | .many ws n => 1 + ws.tot + n.tot
  | .way l n => 1 + l.tot + n.tot
theorem Tr.len_tot : ∀ t : Tr, t.len ≤ t.tot
  | .nil => Nat.le_refl _
  | .one _ nm n => by have := Tr.len_tot n; simp [Tr.len, Tr.tot]; omega
  | .many ws n => by have := Tr.len_tot n; simp [Tr.len, Tr.tot]; omega
  | .way l n => by have := Tr.len_tot n; simp [Tr.len, Tr.tot]; omega
def Tr.app : Tr → Tr → Tr
  | .nil, u => u
  | .one no nm n, u => .one no nm (n.app u)
  | .many ws n, u => .many ws (n.app u)
  | .way l n, u => .way l (n.app u)
theorem Tr.app_nil : ∀ t : Tr, t.app .nil = t
  | .nil => rfl
  | .one no nm n => by simp [Tr.app, Tr.app_nil n]
  | .many ws n => by simp [Tr.app, Tr.app_nil n]
  | .way l n => by simp [Tr.app, Tr.app_nil n]
theorem Tr.app_assoc (u v : Tr) : ∀ t : Tr, (t.app u).app v = t.app (u.app v)
  | .nil => rfl
  | .one no nm n => by simp [Tr.app, Tr.app_assoc u v n]
  | .many ws n => by simp [Tr.app, Tr.app_assoc u v n]
  | .way l n => by simp [Tr.app, Tr.app_assoc u v n]
theorem Tr.len_app (u : Tr) : ∀ t : Tr, (t.app u).len = t.len + u.len
  | .nil => by simp [Tr.app, Tr.len]
  | .one no nm n => by simp [Tr.app, Tr.len, Tr.len_app u n]; omega
  | .many ws n => by simp [Tr.app, Tr.len, Tr.len_app u n]; omega
  | .way l n => by simp [Tr.app, Tr.len, Tr.len_app u n]; omega
/-- What comes of reading: what was read and what is left, or what is wrong. -/
inductive Out where
  | ok (t : Tr) (rest : Bs)
  | bad (e : Int)
def Out.map (f : Tr → Tr) : Out → Out
  | .ok t s => .ok (f t) s
  | .bad e => .bad e
theorem Out.map_map (f g : Tr → Tr) (r : Out) : (r.map f).map g = r.map (fun t => g (f t)) := by cases r <;> rfl
theorem Out.map_id (r : Out) (f : Tr → Tr) (h : ∀ t, f t = t) : r.map f = r := by cases r <;> simp [Out.map, h]
/-- What ends cells. -/
def stopB : Bs → Bool
  | [] => true
  | c :: _ => c == 124 || c == 93 || c == 40
/-- How a lone cell begins: turned or not, and where its name stands. -/
def Lead (s : Bs) (no : Bool) (u : Bs) : Prop := (no = true ∧ bk s = 47 :: u) ∨ (no = false ∧ u = bk s ∧ ∃ c t, bk s = c :: t ∧ c ≠ 47 ∧ c ≠ 91 ∧ stopB (c :: t) = false)
section
variable (sub : Bs → Out → Prop)
/-- Ways, behind the first. -/
inductive PWays : Bs → Out → Prop
  | done (s : Bs) (h : (bk s).head? ≠ some 124) : PWays s (.ok .nil (bk s))
  | bad (s t : Bs) (e : Int) (h : bk s = 124 :: t) (hs : sub t (.bad e)) : PWays s (.bad e)
  | more (s t s1 : Bs) (l : Tr) (r : Out) (h : bk s = 124 :: t) (hs : sub t (.ok l s1)) (hr : PWays s1 r) : PWays s (r.map (.way l))
/-- Cells. -/
inductive PRest : Bs → Out → Prop
  | done (s : Bs) (h : stopB (bk s) = true) : PRest s (.ok .nil (bk s))
  | subBad (s t : Bs) (e : Int) (h : bk s = 91 :: t) (hs : sub t (.bad e)) : PRest s (.bad e)
  | waysBad (s t s1 : Bs) (l : Tr) (e : Int) (h : bk s = 91 :: t) (hs : sub t (.ok l s1)) (hw : PWays sub s1 (.bad e)) : PRest s (.bad e)
  | closeBad (s t s1 s2 : Bs) (l ws : Tr) (h : bk s = 91 :: t) (hs : sub t (.ok l s1)) (hw : PWays sub s1 (.ok ws s2)) (h2 : (bk s2).head? ≠ some 93) : PRest s (.bad 3)
  | many (s t s1 s2 s3 : Bs) (l ws : Tr) (r : Out) (h : bk s = 91 :: t) (hs : sub t (.ok l s1)) (hw : PWays sub s1 (.ok ws s2)) (h2 : bk s2 = 93 :: s3) (hr : PRest s3 r) : PRest s (r.map (.many (.way l ws)))
  | nameBad (s u : Bs) (no : Bool) (h : Lead s no u) (hg : goodName (nmOf u) = false) : PRest s (.bad 3)
  | one (s u : Bs) (no : Bool) (r : Out) (h : Lead s no u) (hg : goodName (nmOf u) = true) (hr : PRest (nmRest u) r) : PRest s (r.map (.one no (nmOf u)))
end
/-- Cells, so many [ deeper at most. -/
def PC : Nat → Bs → Out → Prop
  | 0, _, r => r = .bad 4
  | k + 1, s, r => PRest (PC k) s r
def Shrinks (sub : Bs → Out → Prop) : Prop := ∀ s t s', sub s (.ok t s') → t.tot + s'.length ≤ s.length
theorem PWays.shrinks {sub : Bs → Out → Prop} (hs : Shrinks sub) {s : Bs} {r : Out} (h : PWays sub s r) : ∀ t s', r = .ok t s' → t.tot + s'.length ≤ s.length := by
  induction h with
  | done s h => rintro t s' ⟨⟩; have := bk_len s; simp [Tr.tot]; omega
  | bad s t e h hs => rintro t s' ⟨⟩
  | more s t s1 l r h hsub hr ih =>
    intro t' s' e
    cases r with
    | bad e' => cases e
    | ok t1 s2 =>
      cases e
      have h1 := ih _ _ rfl
      have h2 := hs _ _ _ hsub
      have h3 := bk_len s
      rw [h] at h3
      simp at h3
      simp [Tr.tot]
      omega
theorem lead_len {s u : Bs} {no : Bool} (h : Lead s no u) (hg : goodName (nmOf u) = true) : (nmOf u).length + (nmRest u).length ≤ (bk s).length ∧ 0 < (nmOf u).length := by
  have h1 : (nmOf u).length + (nmRest u).length = (bk u).length := by
    have := congrArg List.length (List.takeWhile_append_dropWhile (p := isNm) (l := bk u))
    rw [List.length_append] at this
    exact this
  have h2 : 0 < (nmOf u).length := by
    unfold goodName at hg
    cases hn : nmOf u with
    | nil => rw [hn] at hg; simp at hg
    | cons c t => simp
  have h3 := bk_len u
  rcases h with ⟨_, h⟩ | ⟨_, rfl, _⟩
  · rw [h]; simp; omega
  · omega
theorem PRest.shrinks {sub : Bs → Out → Prop} (hs : Shrinks sub) {s : Bs} {r : Out} (h : PRest sub s r) : ∀ t s', r = .ok t s' → t.tot + s'.length ≤ s.length := by
  induction h with
  | done s h => rintro t s' ⟨⟩; have := bk_len s; simp [Tr.tot]; omega
  | subBad => rintro t s' ⟨⟩
  | waysBad => rintro t s' ⟨⟩
  | closeBad => rintro t s' ⟨⟩
  | many s t s1 s2 s3 l ws r h hsub hw h2 hr ih =>
    intro t' s' e
    cases r with
    | bad e' => cases e
    | ok t1 s4 =>
      cases e
      have a1 := ih _ _ rfl
      have a2 := hs _ _ _ hsub
      have a3 := hw.shrinks hs _ _ rfl
      have a4 := bk_len s
      have a5 := bk_len s2
      rw [h] at a4
      rw [h2] at a5
      simp at a4 a5
      simp [Tr.tot]
      omega
  | nameBad => rintro t s' ⟨⟩
  | one s u no r h hg hr ih =>
    intro t' s' e
    cases r with
    | bad e' => cases e
    | ok t1 s4 =>
      cases e
      have a1 := ih _ _ rfl
      have a2 := lead_len h hg
      have a3 := bk_len s
      simp [Tr.tot]
      omega
theorem PC.shrinks : ∀ k, Shrinks (PC k)
  | 0 => fun s t s' h => by cases h
  | k + 1 => fun s t s' h => PRest.shrinks (PC.shrinks k) h _ _ rfl
/-- What is read where nothing is deeper: there is an answer. -/
theorem PWays.total {sub : Bs → Out → Prop} (hs : Shrinks sub) (ht : ∀ s, ∃ r, sub s r) : ∀ n (s : Bs), s.length ≤ n → ∃ r, PWays sub s r := by
  intro n
  induction n with
  | zero =>
    intro s h
    have : s = [] := List.eq_nil_of_length_eq_zero (by omega)
    subst this
    exact ⟨_, .done [] (by simp [bk, Lib.trimLeftB])⟩
  | succ n ih =>
    intro s h
    by_cases h1 : (bk s).head? = some 124
    · obtain ⟨t, hb⟩ : ∃ t, bk s = 124 :: t := by
        cases hb : bk s with
        | nil => rw [hb] at h1; cases h1
        | cons c t => rw [hb] at h1; simp at h1; exact ⟨t, by rw [h1]⟩
      have hl := bk_len s
      rw [hb] at hl
      simp at hl
      obtain ⟨r, hr⟩ := ht t
      cases r with
      | bad e => exact ⟨_, .bad s t e hb hr⟩
      | ok l s1 =>
        have := hs _ _ _ hr
        obtain ⟨r2, hr2⟩ := ih s1 (by omega)
        exact ⟨_, .more s t s1 l r2 hb hr hr2⟩
    · exact ⟨_, .done s h1⟩
theorem PRest.total {sub : Bs → Out → Prop} (hs : Shrinks sub) (ht : ∀ s, ∃ r, sub s r) : ∀ n (s : Bs), s.length ≤ n → ∃ r, PRest sub s r := by
  intro n
  induction n with
  | zero =>
    intro s h
    have : s = [] := List.eq_nil_of_length_eq_zero (by omega)
    subst this
    exact ⟨_, .done [] rfl⟩
  | succ n ih =>
    intro s h
    have hl := bk_len s
    cases hst : stopB (bk s)
    · cases hb : bk s with
      | nil => rw [hb] at hst; cases hst
      | cons c t =>
        rw [hb] at hl
        simp at hl
        by_cases h91 : c = 91
        · subst h91
          obtain ⟨r, hr⟩ := ht t
          cases r with
          | bad e => exact ⟨_, .subBad s t e hb hr⟩
          | ok l s1 =>
            have a1 := hs _ _ _ hr
            obtain ⟨r2, hr2⟩ := PWays.total hs ht s1.length s1 (Nat.le_refl _)
            cases r2 with
            | bad e => exact ⟨_, .waysBad s t s1 l e hb hr hr2⟩
            | ok ws s2 =>
              have a2 := hr2.shrinks hs _ _ rfl
              by_cases h2 : (bk s2).head? = some 93
              · obtain ⟨s3, hb2⟩ : ∃ t, bk s2 = 93 :: t := by
                  cases hb2 : bk s2 with
                  | nil => rw [hb2] at h2; cases h2
                  | cons c t => rw [hb2] at h2; simp at h2; exact ⟨t, by rw [h2]⟩
                have a3 := bk_len s2
                rw [hb2] at a3
                simp at a3
                obtain ⟨r3, hr3⟩ := ih s3 (by omega)
                exact ⟨_, .many s t s1 s2 s3 l ws r3 hb hr hr2 hb2 hr3⟩
              · exact ⟨_, .closeBad s t s1 s2 l ws hb hr hr2 h2⟩
        · have hle : ∃ no u, Lead s no u := by
            by_cases h47 : c = 47
            · exact ⟨true, t, .inl ⟨rfl, by rw [hb, h47]⟩⟩
            · exact ⟨false, bk s, .inr ⟨rfl, rfl, c, t, hb, h47, h91, by rw [← hb]; exact hst⟩⟩
          obtain ⟨no, u, hle⟩ := hle
          cases hg : goodName (nmOf u)
          · exact ⟨_, .nameBad s u no hle hg⟩
          · have a1 := lead_len hle hg
            rw [hb] at a1
            simp at a1
            obtain ⟨r, hr⟩ := ih (nmRest u) (by omega)
            exact ⟨_, .one s u no r hle hg hr⟩
    · exact ⟨_, .done s hst⟩
theorem PC.total : ∀ k s, ∃ r, PC k s r
  | 0, s => ⟨_, rfl⟩
  | k + 1, s => PRest.total (PC.shrinks k) (PC.total k) s.length s (Nat.le_refl _)
/-- A coil's kind, and where its name stands. -/
def kindOf (s : Bs) : Int × Bs :=
  match bk s with
  | 47 :: t => (2, t)
  | 83 :: 32 :: t => (3, t)
  | 82 :: 32 :: t => (4, t)
  | t => (1, t)
/-- A rung, or what is wrong with it. -/
structure Rg where
  cells : Tr
  kind : Int
  name : Bs
inductive ORg where
  | ok (r : Rg)
  | bad (e : Int)
def rungOf : Out → ORg
  | .bad e => .bad e
  | .ok t s =>
    match bk s with
    | 40 :: u =>
      if goodName (nmOf (kindOf u).2) = true then
        match bk (nmRest (kindOf u).2) with
        | 41 :: v => if bk v = [] then .ok ⟨t, (kindOf u).1, nmOf (kindOf u).2⟩ else .bad 3
        | _ => .bad 3
      else .bad 3
    | _ => .bad 3
noncomputable def outOf (s : Bs) : Out := Classical.choose (PC.total 9 s)
theorem outOf_is (s : Bs) : PC 9 s (outOf s) := Classical.choose_spec (PC.total 9 s)
noncomputable def rung (s : Bs) : ORg := rungOf (outOf s)
end Go.Proofs.YtlaeflpddehipabGreatDoor

/- The document's ParseImage, plain: what is read, and that just what is written so is let in. -/
import Derived.Test.YtlaeflpddehipabDoorTake
import Derived.Test.YtlaeflpddehipabDoorParsePlain
set_option linter.unusedVariables false
set_option linter.unusedSimpArgs false
namespace Go.Proofs.YtlaeflpddehipabDoor

def tkA (st : Rd) : Nat × Rd := tk 1048576 st
def rRegs : Nat → Rd → List LR × Rd
  | 0, st => ([], st)
  | k + 1, st => if st.2 = true then ([], st) else (⟨(tk 1 st).1 == 1, (tkA (tk 1 st).2).1⟩ :: (rRegs k (tkA (tk 1 st).2).2).1, (rRegs k (tkA (tk 1 st).2).2).2)
def rInts : Nat → Rd → List Int × Rd
  | 0, st => ([], st)
  | k + 1, st => if st.2 = true then ([], st) else ((((tkA st).1 : Nat) : Int) :: (rInts k (tkA st).2).1, (rInts k (tkA st).2).2)
def rLut (st : Rd) : LT × Rd := (⟨(rInts (tk 4 st).1 (tk 4 st).2).1, (tkA (rInts (tk 4 st).1 (tk 4 st).2).2).1⟩, (tkA (rInts (tk 4 st).1 (tk 4 st).2).2).2)
def rLuts : Nat → Rd → List LT × Rd
  | 0, st => ([], st)
  | k + 1, st => if st.2 = true then ([], st) else ((rLut st).1 :: (rLuts k (rLut st).2).1, (rLuts k (rLut st).2).2)
def rr1 (s : List Nat) : Nat × Rd := tkA (s, false)
def rr2 (s : List Nat) : Nat × Rd := tkA (rr1 s).2
def rr3 (s : List Nat) : List LR × Rd := rRegs (rr2 s).1 (rr2 s).2
def rr4 (s : List Nat) : Nat × Rd := tkA (rr3 s).2
def rr5 (s : List Nat) : List LT × Rd := rLuts (rr4 s).1 (rr4 s).2
def rr6 (s : List Nat) : Nat × Rd := tkA (rr5 s).2
def rr7 (s : List Nat) : List Int × Rd := rInts (rr6 s).1 (rr6 s).2
def rrun (s : List Nat) : LN × Rd := (⟨(rr1 s).1, (rr3 s).1, (rr5 s).1, (rr7 s).1⟩, (rr7 s).2)
/-- What the document lets in. -/
def rparses (s : List Nat) : Prop := (rrun s).2.2 = false ∧ (rrun s).2.1 = [] ∧ (rrun s).1.right = true ∧ (rrun s).1.bytes = s
theorem tkA_numB (n : Nat) (h : n ≤ 1048576) (q : List Nat) : tkA (numB n ++ q, false) = (n, q, false) := tk_numB _ n (by omega) h q
theorem rInts_write (l : List Int) : ∀ (q : List Nat), (∀ k ∈ l, 0 ≤ k ∧ k ≤ 1048576) → rInts l.length (insB l ++ q, false) = (l, q, false) := by
  induction l with
  | nil => intro q _; simp [rInts, insB]
  | cons k l ih =>
    intro q h
    have hk := h k (by simp)
    have e : insB (k :: l) ++ q = numB k.toNat ++ (insB l ++ q) := by simp [insB]
    have hr := tkA_numB k.toNat (by omega) (insB l ++ q)
    rw [e]
    show (if (false : Bool) = true then _ else ((((tkA (numB k.toNat ++ (insB l ++ q), false)).1 : Nat) : Int) :: (rInts l.length (tkA (numB k.toNat ++ (insB l ++ q), false)).2).1, (rInts l.length (tkA (numB k.toNat ++ (insB l ++ q), false)).2).2)) = _
    rw [if_neg (by decide), hr, ih q (fun x hx => h x (by simp [hx]))]
    have : ((k.toNat : Nat) : Int) = k := by omega
    rw [this]
theorem rRegs_write (l : List LR) : ∀ (q : List Nat), (∀ r ∈ l, 0 ≤ r.next ∧ r.next ≤ 1048576) → rRegs l.length (l.flatMap LR.bytes ++ q, false) = (l, q, false) := by
  induction l with
  | nil => intro q _; simp [rRegs]
  | cons r l ih =>
    intro q h
    have hk := h r (by simp)
    have hb : bit r.init ≤ 1 := by unfold bit; split <;> omega
    have e : (r :: l).flatMap LR.bytes ++ q = numB (bit r.init) ++ (numB r.next.toNat ++ (l.flatMap LR.bytes ++ q)) := by simp [LR.bytes]
    have h1 := tk_numB 1 (bit r.init) (by omega) hb (numB r.next.toNat ++ (l.flatMap LR.bytes ++ q))
    have h2 := tkA_numB r.next.toNat (by omega) (l.flatMap LR.bytes ++ q)
    rw [e, List.length_cons]
    unfold rRegs
    rw [if_neg (by simp), h1]
    simp only
    rw [h2, ih q (fun x hx => h x (by simp [hx]))]
    obtain ⟨ri, rn⟩ := r
    simp only at hk ⊢
    have e2 : (bit ri == 1) = ri := by cases ri <;> rfl
    have e3 : ((rn.toNat : Nat) : Int) = rn := by omega
    rw [e2, e3]
theorem rLut_write (t : LT) (q : List Nat) (h4 : t.ins.length ≤ 4) (ht : 0 ≤ t.table ∧ t.table ≤ 1048576) (hi : ∀ k ∈ t.ins, 0 ≤ k ∧ k ≤ 1048576) : rLut (t.bytes ++ q, false) = (t, q, false) := by
  have h1 := tk_numB 4 t.ins.length (by omega) h4 (insB t.ins ++ (numB t.table.toNat ++ q))
  have h2 := rInts_write t.ins (numB t.table.toNat ++ q) hi
  have h3 := tkA_numB t.table.toNat (by omega) q
  unfold rLut LT.bytes
  simp only [List.append_assoc, h1]
  rw [h2, h3]
  have e3 : ((t.table.toNat : Nat) : Int) = t.table := by omega
  rw [e3]
theorem rLuts_write (l : List LT) : ∀ (q : List Nat), (∀ t ∈ l, t.ins.length ≤ 4 ∧ (0 ≤ t.table ∧ t.table ≤ 1048576) ∧ ∀ k ∈ t.ins, 0 ≤ k ∧ k ≤ 1048576) → rLuts l.length (l.flatMap LT.bytes ++ q, false) = (l, q, false) := by
  induction l with
  | nil => intro q _; simp [rLuts]
  | cons t l ih =>
    intro q h
    have ht := h t (by simp)
    have hr := rLut_write t (l.flatMap LT.bytes ++ q) ht.1 ht.2.1 ht.2.2
    have e : (t :: l).flatMap LT.bytes ++ q = t.bytes ++ (l.flatMap LT.bytes ++ q) := by simp
    rw [e, List.length_cons]
    unfold rLuts
    rw [if_neg (by simp), hr, ih q (fun x hx => h x (by simp [hx]))]
theorem LN.bytes_mk2 (L : LN) : L.bytes = numB L.given.toNat ++ (numB L.regs.length ++ (L.regs.flatMap LR.bytes ++ (numB L.luts.length ++ (L.luts.flatMap LT.bytes ++ (numB L.outs.length ++ (insB L.outs ++ [])))))) := by
  obtain ⟨g, rs, ls, os⟩ := L
  rw [LN.bytes_mk]
  simp
theorem rrun_bytes {L : LN} (h : L.right = true) : rrun L.bytes = (L, [], false) := by
  have hs := LN.small_numbers h
  have hr : ∀ r ∈ L.regs, 0 ≤ r.next ∧ r.next ≤ 1048576 := by
    intro r hr
    obtain ⟨i, hi, rfl⟩ := List.mem_iff_getElem.1 hr
    have := LN.right_reg h hi
    rw [List.getD_eq_getElem?_getD, List.getElem?_eq_getElem hi] at this
    simp only [Option.getD_some] at this
    omega
  have ho : ∀ k ∈ L.outs, 0 ≤ k ∧ k ≤ 1048576 := by
    intro k hk
    obtain ⟨i, hi, rfl⟩ := List.mem_iff_getElem.1 hk
    have := LN.right_out h hi
    rw [List.getD_eq_getElem?_getD, List.getElem?_eq_getElem hi] at this
    simp only [Option.getD_some] at this
    omega
  have hl : ∀ t ∈ L.luts, t.ins.length ≤ 4 ∧ (0 ≤ t.table ∧ t.table ≤ 1048576) ∧ ∀ k ∈ t.ins, 0 ≤ k ∧ k ≤ 1048576 := by
    intro t ht
    obtain ⟨i, hi, rfl⟩ := List.mem_iff_getElem.1 ht
    have h1 := LN.right_tab h hi
    rw [List.getD_eq_getElem?_getD, List.getElem?_eq_getElem hi] at h1
    simp only [Option.getD_some] at h1
    refine ⟨h1.1, ⟨h1.2.1, by omega⟩, ?_⟩
    intro k hk
    obtain ⟨j, hj, rfl⟩ := List.mem_iff_getElem.1 hk
    have h2 := h1.2.2.2 j hj
    rw [List.getD_eq_getElem?_getD, List.getElem?_eq_getElem hj] at h2
    simp only [Option.getD_some] at h2
    unfold LN.signals at hs
    omega
  have e1 := tkA_numB L.given.toNat (by omega) (numB L.regs.length ++ (L.regs.flatMap LR.bytes ++ (numB L.luts.length ++ (L.luts.flatMap LT.bytes ++ (numB L.outs.length ++ (insB L.outs ++ []))))))
  have e2 := tkA_numB L.regs.length (by omega) (L.regs.flatMap LR.bytes ++ (numB L.luts.length ++ (L.luts.flatMap LT.bytes ++ (numB L.outs.length ++ (insB L.outs ++ [])))))
  have e3 := rRegs_write L.regs (numB L.luts.length ++ (L.luts.flatMap LT.bytes ++ (numB L.outs.length ++ (insB L.outs ++ [])))) hr
  have e4 := tkA_numB L.luts.length (by omega) (L.luts.flatMap LT.bytes ++ (numB L.outs.length ++ (insB L.outs ++ [])))
  have e5 := rLuts_write L.luts (numB L.outs.length ++ (insB L.outs ++ [])) hl
  have e6 := tkA_numB L.outs.length (by omega) (insB L.outs ++ [])
  have e7 := rInts_write L.outs [] ho
  rw [← LN.bytes_mk2] at e1
  have f1 : rr1 L.bytes = _ := e1
  have f2 : rr2 L.bytes = _ := (congrArg (fun z : Nat × Rd => tkA z.2) f1).trans e2
  have f3 : rr3 L.bytes = _ := (congrArg (fun z : Nat × Rd => rRegs z.1 z.2) f2).trans e3
  have f4 : rr4 L.bytes = _ := (congrArg (fun z : List LR × Rd => tkA z.2) f3).trans e4
  have f5 : rr5 L.bytes = _ := (congrArg (fun z : Nat × Rd => rLuts z.1 z.2) f4).trans e5
  have f6 : rr6 L.bytes = _ := (congrArg (fun z : List LT × Rd => tkA z.2) f5).trans e6
  have f7 : rr7 L.bytes = _ := (congrArg (fun z : Nat × Rd => rInts z.1 z.2) f6).trans e7
  unfold rrun
  rw [f1, f3, f5, f7]
  have : ((L.given.toNat : Nat) : Int) = L.given := by omega
  simp only
  rw [this]
theorem rparses_iff {s : List Nat} (hs : AllBytes s) : parses s = true ↔ rparses s := by
  constructor
  · intro h
    obtain ⟨h1, h2⟩ := parses_bytes hs h
    have h3 := rrun_bytes h1
    rw [h2] at h3
    exact ⟨by rw [h3], by rw [h3], by rw [h3]; exact h1, by rw [h3]; exact h2⟩
  · rintro ⟨_, _, h1, h2⟩
    have := (parses_of h1).1
    rw [h2] at this
    exact this
theorem rparses_same {s : List Nat} (hs : AllBytes s) (h : parses s = true) : (rrun s).1 = (run s).1 := by
  obtain ⟨h1, h2⟩ := parses_bytes hs h
  have h3 := rrun_bytes h1
  rw [h2] at h3
  rw [h3]
end Go.Proofs.YtlaeflpddehipabDoor

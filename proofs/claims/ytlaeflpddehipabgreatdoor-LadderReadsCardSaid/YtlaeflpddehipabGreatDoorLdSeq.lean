/- strings.SplitSeq at a line's end: the lines of a text, handed on one by one. -/
import Derived.RangeFuncSeq
import Derived.RangeFuncLeaves
import Derived.RangeFuncCalls
import Derived.Shelf.Abstract
import Derived.Shelf.RegionOpen
import Derived.WalkKit
import Derived.OwnWalkIn
import Derived.TacticsInMore
import Derived.LoopNIn
import Derived.LoopIn
import Derived.Test.YtlaeflpddehipabGreatDoorLdLine
import Derived.Test.YtlaeflpddehipabGreatDoorRoundP
set_option linter.unusedVariables false
set_option linter.unusedSimpArgs false
namespace Go.Proofs.YtlaeflpddehipabGreatDoor
open Go.RowKit Go.Shelf
attribute [local go_sem ↓] Go.wp_at_zero Go.wp_at_succ
attribute [local go_sem] Oper.semAt_some

/-- The lines of a text. -/
def splitLn : Bs → List Bs
  | [] => [[]]
  | c :: t => if c = 10 then [] :: splitLn t else match splitLn t with
    | l :: ls => (c :: l) :: ls
    | [] => [[c]]
theorem splitLn_ne : ∀ s : Bs, splitLn s ≠ []
  | [] => by simp [splitLn]
  | c :: t => by
    unfold splitLn
    split
    · simp
    · split <;> simp
theorem idx_ge : ∀ (s : Bs) (c : UInt8), Lib.indexByte s c = -1 ∨ ∃ i : Nat, Lib.indexByte s c = (i : Int)
  | [], _ => .inl rfl
  | b :: l, c => by
    unfold Lib.indexByte
    split
    · exact .inr ⟨0, rfl⟩
    · rcases idx_ge l c with h | ⟨i, h⟩
      · rw [h]; exact .inl rfl
      · rw [h]
        split
        · rename_i e; simp at e
        · exact .inr ⟨i + 1, by simp⟩
theorem split_none : ∀ (s : Bs), Lib.indexByte s 10 = -1 → splitLn s = [s]
  | [], _ => rfl
  | b :: l, h => by
    unfold Lib.indexByte at h
    split at h
    · cases h
    · rename_i hb
      have hl : Lib.indexByte l 10 = -1 := by
        rcases idx_ge l 10 with h1 | ⟨i, h1⟩
        · exact h1
        · rw [h1] at h
          split at h
          · rename_i e; simp at e
          · omega
      have hb' : b ≠ 10 := by simpa using hb
      unfold splitLn
      rw [if_neg hb', split_none l hl]
theorem split_some : ∀ (s : Bs) (i : Nat), Lib.indexByte s 10 = (i : Int) → i < s.length ∧ splitLn s = s.take i :: splitLn (s.drop (i + 1))
  | [], i, h => by simp [Lib.indexByte] at h
  | b :: l, i, h => by
    unfold Lib.indexByte at h
    split at h
    · rename_i hb
      have hb' : b = 10 := by simpa using hb
      have : i = 0 := by omega
      subst this hb'
      simp [splitLn]
    · rename_i hb
      have hb' : b ≠ 10 := by simpa using hb
      rcases idx_ge l 10 with h1 | ⟨j, h1⟩
      · rw [h1] at h; simp at h
      · rw [h1] at h
        split at h
        · omega
        · have hi : i = j + 1 := by omega
          subst hi
          obtain ⟨h2, h3⟩ := split_some l j h1
          refine ⟨by simp; omega, ?_⟩
          rw [splitLn, if_neg hb', h3]
          simp
theorem sl_IndexByte (s : ByteArray) (c : Int) (w : World) : Calls Tryz.prog 81 #[.string s, .int .u8 c] w fun e w' => e = .returned (.int .i64 (Lib.indexByte s.data.toList c.toNat.toUInt8)) ∧ w' = w :=
  Any.stringslite_IndexByte { Tryz.lays137 with } s c w
theorem sl_Index1 (s : Bs) (c : UInt8) (w : World) : Calls Tryz.prog 77 #[st s, .string ⟨#[c]⟩] w fun e w' => e = .returned (.int .i64 (Lib.indexByte s c)) ∧ w' = w := by
  have h1 : (⟨#[c]⟩ : ByteArray).size = 1 := rfl
  go_enter Tryz.func77, Tryz.ntmps77
  go_wp2_with (go_at_call 81; (with_reducible refine (sl_IndexByte _ _ w).mono ?_); rintro e w1 ⟨rfl, hw⟩; subst w1)
  · rename_i hcs
    go_ret
    have hcs' : [c] = s := by simpa using hcs
    subst hcs'
    refine ⟨?_, rfl⟩
    simp [Lib.indexByte]
  · go_ret
    exact ⟨rfl, rfl⟩
theorem index1 (s : Bs) (c : UInt8) (w : World) : Calls Tryz.prog 59 #[st s, .string ⟨#[c]⟩] w fun e w' => e = .returned (.int .i64 (Lib.indexByte s c)) ∧ w' = w := by
  go_enter Tryz.func59, Tryz.ntmps59
  go_wp2_with (go_at_call 77; (with_reducible refine (sl_Index1 s c w).mono ?_); rintro e w1 ⟨rfl, hw⟩; subst w1)
  go_ret
  exact ⟨rfl, rfl⟩
/-- What is left of the text that is cut. -/
def leftS (b : Nat) (w : World) : Nat := match w.cell? ⟨b, 0, none⟩ with
  | some (.string s) => s.size
  | _ => 0
theorem leftS_is {w : World} {b : Nat} {s : Bs} (h : w.cell? ⟨b, 0, none⟩ = some (st s)) : leftS b w = s.length := by
  unfold leftS
  rw [h]
  exact st_size s
/-- Where the closure of SplitSeq keeps what it goes over. -/
structure SeqBox (bSep bS bSv : Nat) (sb : Bs) (W : World) : Prop where
  sep : W.cell? ⟨bSep, 0, none⟩ = some (.string ⟨#[10]⟩)
  s : W.heap[bS]? = some (.cells #[st sb] 9 (0, 0))
  sv : W.cell? ⟨bSv, 0, none⟩ = some (.int .i64 0)
  len : sb.length ≤ 1000000
set_option maxRecDepth 100000 in
set_option maxHeartbeats 2000000 in
theorem seq_any (n lp bSep bS bSv : Nat) (PI : List Bs → Bs → World → Prop) (PB : List PanicEntry → World → Prop)
    (hbox : ∀ ls sb W, PI ls sb W → SeqBox bSep bS bSv sb W)
    (hset : ∀ ls sb sb' W, PI ls sb W → sb'.length ≤ 1000000 → PI ls sb' (W.setCell ⟨bS, 0, none⟩ (st sb')))
    (hY : ∀ x ls sb W, PI (x :: ls) sb W → YieldAt Fence.wide (n - 1) Tryz.prog lp #[st x] W fun e W' => (e = .returned (.bool true) ∧ PI ls sb W') ∨ ∃ c, e = .panicked c ∧ PB c W')
    (s0 : Bs) (W : World) (h0 : PI (splitLn s0) s0 W) :
    CallsIn Fence.wide n Tryz.prog 65 #[.func (.yield lp) #[] #[], .pointer (some ⟨bSep, 0, none⟩), .pointer (some ⟨bS, 0, none⟩), .pointer (some ⟨bSv, 0, none⟩)] W
      fun e W' => (∃ v, e = .returned v ∧ ∃ sb, PI [] sb W') ∨ ∃ c, e = .panicked c ∧ PB c W' := by
  have hro : Fence.wide.round = none := rfl
  have HB := hid hbox
  have HSET := hid hset
  have HY := hid hY
  have H0 := hid h0
  have hsep0 := (hbox _ _ _ h0).sep
  have hs1 : (⟨#[10]⟩ : ByteArray).size = 1 := rfl
  clear hbox hset hY h0
  refine callsIn_of_wp Tryz.func65 rfl trivial ?_ hro
  simp only [Tryz.ntmps65, List.size_toArray, List.length_cons, List.length_nil, Nat.reduceAdd, Nat.reduceSub, Array.replicate_succ, Array.replicate_zero, List.push_toArray, List.append_toArray, List.nil_append, List.cons_append]
  gi_wp2
  gi_loopw [] (fun wr => ∃ sb, PI (splitLn sb) sb wr) (fun wr => leftS bS wr)
  case atStart => exact ⟨s0, H0.out⟩
  case round =>
    obtain ⟨sb, hpi⟩ := hrel
    have HPI := hid hpi
    have hbx := HB.out _ _ _ hpi
    have hsep := hbx.sep
    have hsv := hbx.sv
    have cs : wr.cell? ⟨bS, 0, none⟩ = some (st sb) := (cell_block hbx.s 0).trans rfl
    have HLN := hid hbx.len
    have hfr := free_block hbx.s
    have hlt := boxLt hbx.s
    clear hpi hbx
    rcases idx_ge sb 10 with hidx | ⟨i, hidx⟩
    · have HI := hid (index1 sb 10 wr)
      rw [hidx] at HI
      have hone := split_none sb hidx
      have hp := HPI.out
      rw [hone] at hp
      obtain ⟨fn, tmps, assign, body, hy, hR⟩ := HY.out _ _ _ _ hp
      have HR := hid hR
      clear hidx hone hp hR
      gi_wp2_with fail
      refine ⟨trivial, fun h => (by cases h), ?_⟩
      refine (callsIn_wide.2 HI.out).mono ?_
      rintro e w1 ⟨rfl, hw⟩
      subst w1
      gi_wp2_with fail
      refine ⟨fun h => (by cases h), ?_⟩
      refine HR.out.mono ?_
      rintro e W' (⟨rfl, hp⟩ | ⟨c, rfl, hp⟩)
      · have HP := hid hp
        clear hp
        gi_wp2_with fail
        go_end0
        exact .inl ⟨_, rfl, sb, HP.out⟩
      · exact ⟨rfl, .inr ⟨c, rfl, hp⟩⟩
    · have HI := hid (index1 sb 10 wr)
      rw [hidx] at HI
      obtain ⟨hil, hsome⟩ := split_some sb i hidx
      have hp := HPI.out
      rw [hsome] at hp
      obtain ⟨fn, tmps, assign, body, hy, hR⟩ := HY.out _ _ _ _ hp
      have HR := hid hR
      rw [show st (sb.take i) = .string ((⟨sb.toArray⟩ : ByteArray).extract 0 i) by rw [ex_take]] at hy
      have hi1 : (i : Int) ≤ (sb.length : Int) := by omega
      have hi2 : decide ((i : Int) < 0) = false := decide_eq_false (by omega)
      have hi0 : ¬ ((i : Int) < 0) := by omega
      have hw1 : wrap64 (i : Int) = (i : Int) := by have := HLN.out; unfold wrap64; omega
      have hw2 : wrap64 ((i : Int) + 1) = (i : Int) + 1 := by have := HLN.out; unfold wrap64; omega
      have hi4 : ((i : Int) + 1) ≤ (sb.length : Int) := by omega
      have hszs := st_size sb
      clear hidx hsome hp hR
      gi_wp2_with fail
      refine ⟨trivial, fun h => (by cases h), ?_⟩
      refine (callsIn_wide.2 HI.out).mono ?_
      rintro e w1 ⟨rfl, hw⟩
      subst w1
      gi_wp2_with fail
      refine ⟨fun h => (by cases h), ?_⟩
      refine HR.out.mono ?_
      rintro e W' (⟨rfl, hp⟩ | ⟨c, rfl, hp⟩)
      · have HP := hid hp
        have hbx := HB.out _ _ _ hp
        have hsep' := hbx.sep
        have cs' : W'.cell? ⟨bS, 0, none⟩ = some (st sb) := (cell_block hbx.s 0).trans rfl
        have hfr' := free_block hbx.s
        have hlt' := boxLt hbx.s
        clear hp hbx
        gi_wp2_with fail
        rw [ex_drop sb (i + 1) sb.length (Nat.le_refl _)]
        have hn := HSET.out _ sb (sb.drop (i + 1)) W' HP.out (by have := HLN.out; rw [List.length_drop]; omega)
        refine ⟨⟨_, hn⟩, ?_⟩
        rw [leftS_is (s := sb.drop (i + 1)) ((cell_block (HB.out _ _ _ hn).s 0).trans rfl), leftS_is cs, List.length_drop]
        omega
      · exact ⟨rfl, .inr ⟨c, rfl, hp⟩⟩
end Go.Proofs.YtlaeflpddehipabGreatDoor

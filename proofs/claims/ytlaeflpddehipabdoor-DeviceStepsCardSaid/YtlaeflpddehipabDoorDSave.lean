/- Both Devices' Save: a letter a register. -/
import Derived.Test.YtlaeflpddehipabDoorRNew
import Derived.Test.YtlaeflpddehipabDoorLsRegs
import Derived.Test.YtlaeflpddehipabDoorNumber
import Derived.Lib.SlTrimSet
import Derived.Lib.BufferRead
import Derived.Laws.IdiomStrings
set_option linter.unusedVariables false
set_option linter.unusedSimpArgs false
set_option linter.unusedSectionVars false
namespace Go.Proofs.YtlaeflpddehipabDoor
open Go.RowKit
attribute [local go_sem ↓] Go.wp_at_zero Go.wp_at_succ

/-- Registers as letters. -/
def svB (b : Bool) : UInt8 := if b then 49 else 48
def sv (l : List Bool) : ByteArray := ⟨(l.map svB).toArray⟩
theorem sv_snoc (l : List Bool) (b : Bool) : sv (l ++ [b]) = sv l ++ ⟨#[svB b]⟩ := by
  apply ByteArray.ext
  rw [ByteArray.data_append]
  unfold sv
  apply Array.ext'
  simp
theorem sv_size (l : List Bool) : (sv l).size = l.length := by
  show (l.map svB).toArray.size = _
  simp
/-- Letters 0 and 1, and no other. -/
def all01 (s : ByteArray) : Bool := s.data.toList.all fun b => b == 48 || b == 49
/-- Registers of letters. -/
def ld (s : ByteArray) : List Bool := s.data.toList.map fun b => b == 49
theorem ld_len (s : ByteArray) : (ld s).length = s.size := by
  unfold ld
  rw [List.length_map, Lib.size_eq]
theorem dropAll {p : UInt8 → Bool} : ∀ {l : List UInt8}, l.dropWhile p = [] ↔ ∀ x ∈ l, p x = true
  | [] => by simp
  | a :: l => by
    have ih := @dropAll p l
    cases h : p a <;> simp [List.dropWhile, h, ih]
theorem contains01 (b : UInt8) : ([48, 49] : List UInt8).contains b = (b == 48 || b == 49) := by
  simp only [List.contains, List.elem]
  cases h : (b == 48) <;> cases h' : (b == 49) <;> rfl
theorem trim01 (s : ByteArray) : (⟨(Lib.trimS s.data.toList ([48, 49] : List UInt8)).toArray⟩ : ByteArray) = ⟨#[]⟩ ↔ all01 s = true := by
  have e : ∀ l : List UInt8, (⟨l.toArray⟩ : ByteArray) = ⟨#[]⟩ ↔ l = [] := by
    intro l
    constructor
    · intro h
      have := congrArg (fun x => x.data.toList) h
      simpa using this
    · rintro rfl; rfl
  rw [e]
  unfold Lib.trimS Lib.trimLeftS Lib.trimRightS all01
  generalize s.data.toList = l
  rw [List.all_eq_true]
  constructor
  · intro h x hx
    have h1 : ∀ y ∈ (l.reverse.dropWhile (([48, 49] : List UInt8).contains ·)), ([48, 49] : List UInt8).contains y = true := by
      intro y hy
      by_cases hne : ([48, 49] : List UInt8).contains y = true
      · exact hne
      · have hy' : y ∈ (l.reverse.dropWhile (([48, 49] : List UInt8).contains ·)).reverse := List.mem_reverse.2 hy
        have := dropAll.1 h y hy'
        exact this
    have h2 : l.reverse.dropWhile (([48, 49] : List UInt8).contains ·) = [] := by
      cases hd : l.reverse.dropWhile (([48, 49] : List UInt8).contains ·) with
      | nil => rfl
      | cons y t =>
        exfalso
        have h3 := List.head?_dropWhile_not (fun b => ([48, 49] : List UInt8).contains b) l.reverse
        rw [hd] at h3
        have h4 := h1 y (by rw [hd]; exact List.mem_cons_self)
        simp at h3 h4
        rcases h4 with h4 | h4 <;> simp [h4] at h3
    have h3 := dropAll.1 h2 x (List.mem_reverse.2 hx)
    rw [← contains01]
    exact h3
  · intro h
    have h2 : l.reverse.dropWhile (([48, 49] : List UInt8).contains ·) = [] := dropAll.2 fun x hx => by
      rw [contains01]
      exact h x (List.mem_reverse.1 hx)
    rw [h2]
    rfl
theorem all01_at {s : ByteArray} {k : Nat} (hk : k < s.size) : s.data.toList[k]? = some (s[k]'hk) := by
  rw [List.getElem?_eq_getElem (by rw [← Lib.size_eq]; exact hk)]
  rfl
def svV (b : Bool) : Value := .int .u8 ((svB b).toNat : Int)
theorem svConv {w : World} {base n : Nat} {v : Value} {l : List Bool} (h : w.ownsRow base 5 1 v n (l.map svV)) (hl : l.length = n) :
    ∃ a c, v = .slice a n c ∧ (convert 93 9 (.slice a n c)).run Tryd.prog w = .ok (.string (sv l)) w := by
  subst hl
  obtain ⟨a, c, e, _, hnil, hc⟩ := Cells.of_owns h
  rcases h.2 with ⟨rfl, h0⟩ | ⟨g, cap, cur, rfl, _⟩
  · have : l = [] := List.eq_nil_of_length_eq_zero h0
    subst this
    exact ⟨none, 0, rfl, Lib.run_convert_nil_bytes _ _ _ 5 _ Tryd.underlying93 Tryd.underlying5 Tryd.underlying9⟩
  · refine ⟨_, cap, rfl, ?_⟩
    have hl2 : (l.map svB).length = l.length := by simp
    have h1 := run_convert_bytes_back (P := Tryd.prog) w 93 9 5 ⟨g, 0, none⟩ cap (l.map svB) Tryd.underlying93 Tryd.underlying5 Tryd.underlying9 (fun j hj => by
      have hj' : j < l.length := by simpa using hj
      simp only [Value.slice.injEq] at e
      obtain ⟨rfl, _, rfl⟩ := e
      obtain ⟨b, off, e1, _, hcell⟩ := hc.at (by omega)
      simp only [Option.some.injEq, Addr.mk.injEq, and_true] at e1
      obtain ⟨rfl, rfl⟩ := e1
      have := hcell j (by omega)
      rw [Addr.add_at]
      rw [Nat.zero_add] at this
      rw [this]
      simp [List.getD_eq_getElem?_getD, hj', svV])
    rw [hl2] at h1
    exact h1
theorem svTake {w : World} {base j : Nat} {v : Value} {l : List Bool} {b : Bool} {u : Value} (h : w.ownsRow base 5 1 v (j + 1) ((l.map svV).take j ++ [u])) (hu : svV b = u) (e : l.take (j + 1) = l.take j ++ [b]) : w.ownsRow base 5 1 v (j + 1) ((l.take (j + 1)).map svV) := by
  rw [e, List.map_append, List.map_take]
  subst hu
  exact h
set_option maxHeartbeats 3200000 in
theorem DSave_any (hp q s b n : Nat) (x1 x2 : Value) (regs : List Bool) (W : World) (hbox : W.heap[q]? = some (.cells #[.pointer (some ⟨s, 0, none⟩), x1, x2] 116 (0, 0))) (hS : LSim hp W s b regs) (hn : regs.length = n) (hm : n ≤ 1000000) :
    Calls Tryd.prog 28 #[.pointer (some ⟨q, 0, none⟩)] W fun e w' => e = .returned (.string (sv regs)) ∧ Below W.heap.size W w' := by
  obtain ⟨i0, hi, hz0, hz1, hz2⟩ := info_parts Tryd.infoByte
  have x0 : W.cell? ⟨q, 0, none⟩ = some (.pointer (some ⟨s, 0, none⟩)) := (cell_block hbox 0).trans rfl
  have HS := hid hS
  have HN := hid hn
  clear hbox hS hn
  go_enter Tryd.func28, Tryd.ntmps28
  go_wp2_with (go_at_call 58; (with_reducible refine (LsRegs_any hp s b regs W HS.out (by rw [HN.out]; exact hm)).mono ?_); rintro e w1 ⟨v, rfl, hv, hb⟩; rw [HN.out] at hv; obtain ⟨a1, c1, rfl, hc1⟩ := bitRow hv; have HC1 := hid hc1; have HB1 := hid hb; clear hv hb hc1)
  clear x0
  go_loopw [3, 13] (fun v3 v wr => ∃ k : Nat, k ≤ n ∧ v = .int .i64 k ∧ wr.ownsRow w1.heap.size 5 1 v3 k ((regs.take k).map svV) ∧ Below w1.heap.size w1 wr) (fun _ v _ => n - (intOf v).toNat)
  case atStart => exact ⟨0, Nat.zero_le _, rfl, World.ownsRow_nil _ _ _ _, Below.refl _ _⟩
  case round =>
    obtain ⟨k, hk, rfl, hown, hbe⟩ := hrel
    have hsz := hbe.size
    have HO := hid hown
    have HB := hid hbe
    by_cases hlt : k < n
    · have hkI : (k : Int) < (n : Int) := by omega
      have hk0 : (0 : Int) ≤ (k : Int) := by omega
      obtain ⟨bi, oi, rfl, hbi, hci⟩ := HC1.out.at (by omega)
      have hck := (hbe.cell (p := ⟨bi, oi + k, none⟩) hbi).trans (hci k hlt)
      have HT := take_snoc regs k false (by rw [HN.out]; exact hlt)
      generalize regs.getD k false = x at hck HT
      have HT' := hid HT
      clear hci hown hbe HT
      cases x
      all_goals
        go_wp2_with (at_builtin; refine wpList_push _ w1 wr rfl _ _ 93 rfl 5 i0 (.int .u8 0) 1 1 Tryd.underlying93 hi hz0 hz1 hz2 rfl (by decide) w1.heap.size _ _ _ rfl HO.out 1 1 _ rfl rfl rfl rfl ?c3 ?c4 HB.out (Nat.le_refl _) hsz ?_)
        case c3 => unfold maxLen; omega
        case c4 => omega
        intro v' w8 hown3 hbel3 _ _
        have HO3 := hid hown3
        have HB3 := hid hbel3
        clear hown3 hbel3 HO HB
        go_wp2
        go_roundw
        case rel => exact ⟨k + 1, hlt, by go_num, svTake HO3.out rfl HT'.out, HB3.out⟩
        case measure => simp [intOf]; omega
    · obtain rfl : n = k := by omega
      have hall : regs.take n = regs := List.take_of_length_le (by rw [HN.out]; exact Nat.le_refl _)
      rw [hall] at hown
      obtain ⟨a, c, rfl, hcv⟩ := svConv hown HN.out
      clear hown hbe HO hall
      go_wp2_with fail
      go_ret
      exact ⟨rfl, HB1.out.trans (HB.out.mono HB1.out.size)⟩
set_option maxHeartbeats 3200000 in
theorem RSave_any (C d n : Nat) (x0 x1 x2 x3 x5 x6 : Value) (regs : List Bool) (W : World) (hS : RBox C W d x0 x1 x2 x3 x5 x6 regs) (hn : regs.length = n) (hm : n ≤ 1000000) :
    Calls Tryd.prog 29 #[.pointer (some ⟨d, 0, none⟩)] W fun e w' => e = .returned (.string (sv regs)) ∧ Below W.heap.size W w' := by
  obtain ⟨a, c, hCd, hbox, hown⟩ := hS
  rw [hn] at hbox hown
  have z4 : W.cell? ⟨d, 4, none⟩ = some (.slice a n c) := (cell_block hbox 4).trans rfl
  have HC1 := hid (bits_cells hown)
  have HN := hid hn
  clear hbox hown hn
  go_enter Tryd.func29, Tryd.ntmps29
  go_wp2_with fail
  clear z4
  go_loopw [3, 11] (fun v3 v wr => ∃ k : Nat, k ≤ n ∧ v = .int .i64 k ∧ v3 = .string (sv (regs.take k)) ∧ wr = W) (fun _ v _ => n - (intOf v).toNat)
  case atStart => exact ⟨0, Nat.zero_le _, rfl, rfl, rfl⟩
  case round =>
    obtain ⟨k, hk, rfl, rfl, hw⟩ := hrel
    subst hw
    by_cases hlt : k < n
    · have hkI : (k : Int) < (n : Int) := by omega
      have hk0 : (0 : Int) ≤ (k : Int) := by omega
      obtain ⟨bi, oi, rfl, hbi, hci⟩ := HC1.out.at (by omega)
      have hck := hci k hlt
      have HT := take_snoc regs k false (by rw [HN.out]; exact hlt)
      have hts : (sv (regs.take k)).size = k := by rw [sv_size, List.length_take, HN.out]; omega
      have HE := hid (sv_snoc (regs.take k) (regs.getD k false))
      unfold Hid at HE
      rw [← HT] at HE
      generalize regs.getD k false = x at hck HE
      generalize sv (regs.take k) = t at hts HE
      have HE' := hid HE
      clear hci HT HE
      cases x
      all_goals
        go_wp2_with fail
        go_roundw
        case rel => exact ⟨k + 1, hlt, by go_num, by rw [HE'.out]; rfl, by first | rfl | trivial⟩
        case measure => simp [intOf]; omega
    · obtain rfl : n = k := by omega
      have hall : regs.take n = regs := List.take_of_length_le (by rw [HN.out]; exact Nat.le_refl _)
      rw [hall]
      go_wp2_with fail
      go_ret
      exact ⟨rfl, Below.refl _ _⟩
end Go.Proofs.YtlaeflpddehipabDoor

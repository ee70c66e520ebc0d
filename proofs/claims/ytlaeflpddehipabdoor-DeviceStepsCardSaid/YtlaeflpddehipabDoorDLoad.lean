/- Both Devices' Load: registers of letters. -/
import Derived.Test.YtlaeflpddehipabDoorDSave
import Derived.Test.YtlaeflpddehipabDoorDStep
import Derived.Test.YtlaeflpddehipabDoorRDStep
import Derived.Test.YtlaeflpddehipabDoorTrim
import Derived.Lib.OthersKept
import Derived.Laws.RangeAny
set_option linter.unusedVariables false
set_option linter.unusedSimpArgs false
set_option linter.unusedSectionVars false
namespace Go.Proofs.YtlaeflpddehipabDoor
open Go.RowKit
attribute [local go_sem ↓] Go.wp_at_zero Go.wp_at_succ

theorem all01_no {s : ByteArray} {k : Nat} (hk : k < s.size) (h0 : (s[k]'hk).toNat ≠ 48) (h1 : (s[k]'hk).toNat ≠ 49) : all01 s = false := by
  cases h : all01 s with
  | false => rfl
  | true =>
    exfalso
    unfold all01 at h
    rw [List.all_eq_true] at h
    have h2 := h (s[k]'hk) (List.mem_iff_getElem?.2 ⟨k, all01_at hk⟩)
    simp only [Bool.or_eq_true, beq_iff_eq] at h2
    rcases h2 with h2 | h2
    · exact h0 (by rw [h2]; rfl)
    · exact h1 (by rw [h2]; rfl)
theorem all01_yes {s : ByteArray} (h : all01 s = true) {k : Nat} (hk : k < s.size) : (s[k]'hk).toNat = 48 ∨ (s[k]'hk).toNat = 49 := by
  by_cases h0 : (s[k]'hk).toNat = 48
  · exact .inl h0
  · by_cases h1 : (s[k]'hk).toNat = 49
    · exact .inr h1
    · rw [all01_no hk h0 h1] at h; cases h
theorem all01_of {s : ByteArray} (h : ∀ k (hk : k < s.size), (s[k]'hk).toNat = 48 ∨ (s[k]'hk).toNat = 49) : all01 s = true := by
  unfold all01
  rw [List.all_eq_true]
  intro x hx
  obtain ⟨k, hk, rfl⟩ := List.mem_iff_getElem.1 hx
  have hk' : k < s.size := by rw [Lib.size_eq]; exact hk
  rcases h k hk' with h | h
  · have : s.data.toList[k] = 48 := UInt8.toNat_inj.1 h
    simp [this]
  · have : s.data.toList[k] = 49 := UInt8.toNat_inj.1 h
    simp [this]
theorem ld_at {s : ByteArray} {k : Nat} (hk : k < s.size) : (ld s).take (k + 1) = (ld s).take k ++ [decide ((s[k]'hk).toNat = 49)] := by
  have hl : k < (ld s).length := by rw [ld_len]; exact hk
  have e1 : (ld s)[k]'hl = ((s[k]'hk) == 49) := by
    simp only [ld, List.getElem_map]
    rfl
  have e2 : ((s[k]'hk) == 49) = decide ((s[k]'hk).toNat = 49) := decide_eq_decide.2 ⟨fun h => by rw [h]; rfl, fun h => UInt8.toNat_inj.1 h⟩
  rw [List.take_succ_eq_append_getElem hl, e1, e2]
/-- What a letter is that is neither 0 nor 1. -/
theorem decode_other (s : ByteArray) (k : Nat) (hk : k < s.size) (h0 : (s[k]'hk).toNat ≠ 48) (h1 : (s[k]'hk).toNat ≠ 49) : (Utf8.decode s k).1 ≠ 48 ∧ (Utf8.decode s k).1 ≠ 49 := by
  by_cases h : (s[k]'hk).toNat < 128
  · rw [decode_ascii s k hk h]
    exact ⟨h0, h1⟩
  · have := (decode_high s k hk (by omega)).1
    omega
theorem iter_row {w : World} {base : Nat} {e : TypeId} {size : Nat} {v : Value} {n : Nat} {xs : List Value} (h : w.ownsRow base e size v n xs) {k : Nat} (hk : k < base) (s : ByteArray) (p : Nat) : (w.iterAt k s p).ownsRow base e size v n xs := by
  obtain ⟨h1, h2⟩ := h
  refine ⟨h1, ?_⟩
  rcases h2 with h2 | ⟨g, cap, cur, a, b, c, d⟩
  · exact .inl h2
  · exact .inr ⟨g, cap, cur, a, b, by rw [Lib.iterAt_other _ _ _ _ _ (by omega)]; exact c, d⟩
theorem iter_pos {w : World} {k : Nat} {s : ByteArray} {p : Nat} (h : w.heap[k]? = some (.stringIter s p)) : w.iterPos k = p := by simp [World.iterPos, h]
/-- What Load makes of letters. -/
def ldErr (t : ByteArray) (n : Nat) : Int := if all01 t = true then if t.size = n then 0 else 1 else 3
theorem ldErr_form {t : ByteArray} {n : Nat} (h : all01 t = false) : ldErr t n = 3 := by unfold ldErr; rw [if_neg (by rw [h]; simp)]
theorem ldErr_arg {t : ByteArray} {n : Nat} (h : all01 t = true) (h2 : t.size ≠ n) : ldErr t n = 1 := by unfold ldErr; rw [if_pos h, if_neg h2]
theorem ldErr_none {t : ByteArray} {n : Nat} (h : all01 t = true) (h2 : t.size = n) : ldErr t n = 0 := by unfold ldErr; rw [if_pos h, if_pos h2]
def DLoadPost (hp s b : Nat) (t : ByteArray) (n : Nat) (W : World) (e : Ending) (w' : World) : Prop :=
  if ldErr t n = 0 then e = .returned .nilIface ∧ LSim hp w' s b (ld t) ∧ W.grownBy w' (some s) else e = .returned (.iface 33 (.int .i64 (ldErr t n))) ∧ Below W.heap.size W w'
theorem DLoadPost.no {hp s b : Nat} {t : ByteArray} {n : Nat} {W w' : World} {k : Int} (h : ldErr t n = k) (hk : k ≠ 0) (hb : Below W.heap.size W w') : DLoadPost hp s b t n W (.returned (.iface 33 (.int .i64 k))) w' := by
  subst h
  unfold DLoadPost
  rw [if_neg hk]
  exact ⟨rfl, hb⟩
def RLoadPost (C d : Nat) (x0 x1 x2 x3 x5 x6 : Value) (t : ByteArray) (n : Nat) (W : World) (e : Ending) (w' : World) : Prop :=
  if ldErr t n = 0 then e = .returned (.int .i64 0) ∧ RBox C w' d x0 x1 x2 x3 x5 x6 (ld t) ∧ W.grownBy w' (some d) else e = .returned (.int .i64 (ldErr t n)) ∧ Below W.heap.size W w'
theorem RLoadPost.no {C d : Nat} {x0 x1 x2 x3 x5 x6 : Value} {t : ByteArray} {n : Nat} {W w' : World} {k : Int} (h : ldErr t n = k) (hk : k ≠ 0) (hb : Below W.heap.size W w') : RLoadPost C d x0 x1 x2 x3 x5 x6 t n W (.returned (.int .i64 k)) w' := by
  subst h
  unfold RLoadPost
  rw [if_neg hk]
  exact ⟨rfl, hb⟩

set_option maxRecDepth 100000 in
set_option maxHeartbeats 6400000 in
theorem DLoad_any (hp q s b n : Nat) (x1 x2 : Value) (regs : List Bool) (t : ByteArray) (W : World) (hbox : W.heap[q]? = some (.cells #[.pointer (some ⟨s, 0, none⟩), x1, x2] 116 (0, 0))) (hS : LSim hp W s b regs) (hp' : hp ≤ W.heap.size) (hn : regs.length = n) (hm : t.size ≤ 1000000) :
    Calls Tryd.prog 30 #[.pointer (some ⟨q, 0, none⟩), .string t] W (DLoadPost hp s b t n W) := by
  obtain ⟨i0, hi, hz0, hz1, hz2⟩ := info_parts Tryd.lsInfoBool
  have HBOX := hid hbox
  have HS := hid hS
  have HN := hid hn
  have HK0 := hid (World.iter_heap W t 0)
  have HB0 := hid (show Below W.heap.size W (W.iter t 0) from (Below.refl _ _).alloc (Nat.le_refl _) _)
  clear hbox hS hn
  go_enter Tryd.func30, Tryd.ntmps30
  go_wp2
  go_loopw [5] (fun v5 wr => ∃ k : Nat, k ≤ t.size ∧ wr.heap[W.heap.size]? = some (.stringIter t k) ∧ wr.ownsRow (W.heap.size + 1) 4 1 v5 k (((ld t).take k).map .bool) ∧ Below W.heap.size W wr ∧ (∀ j (hj : j < t.size), j < k → (t[j]'hj).toNat = 48 ∨ (t[j]'hj).toNat = 49)) (fun _ wr => t.size - wr.iterPos W.heap.size)
  case atStart => exact ⟨0, Nat.zero_le _, HK0.out, World.ownsRow_nil _ _ _ _, HB0.out, fun j _ h => absurd h (Nat.not_lt_zero _)⟩
  case round =>
    obtain ⟨k, hk, hit, hown, hbe, hok⟩ := hrel
    have hpos := iter_pos hit
    have hsz := hbe.size
    have hlti := boxLt hit
    by_cases hlt : k < t.size
    · by_cases h48 : (t[k]'hlt).toNat = 48 ∨ (t[k]'hlt).toNat = 49
      · have h128 : (t[k]'hlt).toNat < 128 := by omega
        have hnx : ∀ ty, (Instr.next (.pointer (some ⟨W.heap.size, 0, none⟩)) true ty).run Tryd.prog wr = _ := fun ty => Lib.run_next_ascii_at wr W.heap.size t k ty hit hlt h128
        have hit2 := Lib.iterAt_heap wr W.heap.size t k (k + 1) hit
        have hbe2 := Lib.below_iterAt hbe (k := W.heap.size) (Nat.le_refl _) t (k + 1)
        have hown2 := iter_row hown (k := W.heap.size) (by omega) t (k + 1)
        have HT := hid (ld_at hlt)
        have HOK := hid (show ∀ j (hj : j < t.size), j < k + 1 → (t[j]'hj).toNat = 48 ∨ (t[j]'hj).toNat = 49 from fun j hj h => by
          by_cases e : j = k
          · subst e; exact h48
          · exact hok j hj (by omega))
        have hszW : W.heap.size + 1 ≤ (wr.iterAt W.heap.size t (k + 1)).heap.size := by rw [Lib.iterAt_size]; omega
        generalize wr.iterAt W.heap.size t (k + 1) = W1 at hnx hit2 hbe2 hown2 hszW
        generalize (t[k]'hlt).toNat = x at hnx h48 HT
        have HIT := hid hit2
        have HB := hid hbe2
        have HO := hid hown2
        have hsz1 := hbe2.size
        have HT' := hid HT
        have HPOS := hid hpos
        clear hit hown hbe hok hit2 hbe2 hown2 HK0 HB0 HT hlti hpos h128
        rcases h48 with rfl | rfl
        all_goals
          go_wp2_with (at_builtin; refine wpList_push _ W W1 rfl _ _ 62 rfl 4 i0 (.bool false) 1 1 Tryd.underlying62 hi hz0 hz1 hz2 rfl (by decide) (W.heap.size + 1) _ _ _ rfl HO.out 1 1 _ rfl rfl rfl rfl ?c3 ?c4 HB.out (Nat.le_succ _) hszW ?_)
          case c3 => unfold maxLen; omega
          case c4 => omega
          intro v' w8 hown3 hbel3 hg3 _
          have HO3 := hid hown3
          have HB3 := hid hbel3
          have HI3 := hid ((hg3.block W.heap.size (by omega) (fun h => by have := (HO.out.lt _ h.symm).1; omega)).trans HIT.out)
          clear hown3 hbel3 hg3 HO HB HIT
          go_wp2
          go_roundw
          case rel => exact ⟨k + 1, hlt, HI3.out, by first | exact bitTake HO3.out HT'.out | exact (List.map_take ▸ bitTake HO3.out HT'.out), HB3.out, HOK.out⟩
          case measure => rw [iter_pos HI3.out, HPOS.out]; omega
      · have hnx : ∀ ty, (Instr.next (.pointer (some ⟨W.heap.size, 0, none⟩)) true ty).run Tryd.prog wr = _ := fun ty => Lib.run_next_any_at wr W.heap.size t k ty hit hlt
        have hbe2 := Lib.below_iterAt hbe (k := W.heap.size) (Nat.le_refl _) t (k + (Utf8.decode t k).2)
        obtain ⟨ho1, ho2⟩ := decode_other t k hlt (by omega) (by omega)
        have HE := hid (ldErr_form (n := n) (all01_no hlt (by omega) (by omega)))
        generalize wr.iterAt W.heap.size t (k + (Utf8.decode t k).2) = W1 at hnx hbe2
        generalize (Utf8.decode t k).1 = x at hnx ho1 ho2
        have d0 : ((x : Int) != 48) = true := bne_iff_ne.2 (by omega)
        have d1 : ((x : Int) != 49) = true := bne_iff_ne.2 (by omega)
        have HB := hid hbe2
        clear hit hown hbe hok hbe2 HK0 HB0 hlti hpos h48
        go_wp2_with fail
        go_ret
        exact DLoadPost.no HE.out (by decide) HB.out
    · obtain rfl : k = t.size := by omega
      have hnx : ∀ ty, (Instr.next (.pointer (some ⟨W.heap.size, 0, none⟩)) true ty).run Tryd.prog wr = _ := fun ty => Lib.run_next_end_at wr W.heap.size t t.size ty hit hlt
      have hall : all01 t = true := all01_of fun j hj => hok j hj hj
      have htk : (ld t).take t.size = ld t := List.take_of_length_le (by rw [ld_len]; exact Nat.le_refl _)
      rw [htk] at hown
      obtain ⟨a, c, rfl, hle, hnil, hcl⟩ := bitRow3 hown
      have hboxr := (hbe.block q (boxLt HBOX.out)).trans HBOX.out
      have x0 : wr.cell? ⟨q, 0, none⟩ = some (.pointer (some ⟨s, 0, none⟩)) := (cell_block hboxr 0).trans rfl
      have HSR := hid (HS.out.stay hbe)
      have HCL := hid hcl
      have HNIL := hid hnil
      have HB := hid hbe
      have HALL := hid hall
      have hlen := ld_len t
      have HLEN := hid hlen
      clear hit hown hok HK0 HB0 hlti hpos hcl hnil htk hlen hboxr hlt hk
      by_cases hmn : t.size = n
      · have HE := hid (ldErr_none (n := n) hall hmn)
        have HMN := hid (hmn.trans HN.out.symm)
        clear hmn hall
        go_wp2_with (go_at_call 59; (with_reducible refine (LsPut_right hp s b regs wr wr.heap.size a t.size c (ld t) HSR.out (Nat.le_trans hp' HB.out.size) (Nat.le_refl _) HLEN.out HMN.out HCL.out HNIL.out hm).mono ?_); rintro e w2 ⟨rfl, hs2, hg2⟩; have HS2 := hid hs2; have HG2 := hid hg2; clear hs2 hg2)
        go_ret
        unfold DLoadPost
        rw [if_pos HE.out]
        exact ⟨rfl, HS2.out, grown_from HB.out HG2.out⟩
      · have HE := hid (ldErr_arg (n := n) hall hmn)
        have HMN := hid (show t.size ≠ regs.length by rw [HN.out]; exact hmn)
        clear hmn hall
        go_wp2_with (go_at_call 59; (with_reducible refine (LsPut_wrong hp s b regs wr wr.heap.size a t.size c HSR.out HMN.out).mono ?_); rintro e w2 ⟨rfl, hb2⟩; have HB2 := hid (HB.out.trans (hb2.mono HB.out.size)); clear hb2)
        go_ret
        exact DLoadPost.no HE.out (by decide) HB2.out

theorem trim_yes {t : ByteArray} (w : World) (hm : t.size ≤ 1000000) (h : all01 t = true) : Calls Tryd.prog 60 #[.string t, .string ⟨#[48, 49]⟩] w fun e w' => e = .returned (.string ⟨#[]⟩) ∧ Below w.heap.size w w' := by
  have key := strings_Trim t ⟨#[48, 49]⟩ w (by omega) (by decide) (fun j b hj => by
    have : ([48, 49] : List UInt8)[j]? = some b := hj
    rcases j with _ | _ | j <;> simp at this <;> subst this <;> decide)
  refine key.mono ?_
  rintro e w' ⟨rfl, hb⟩
  have e1 := (trim01 t).2 h
  refine ⟨?_, hb⟩
  rw [← e1]
theorem trim_no {t : ByteArray} (w : World) (hm : t.size ≤ 1000000) (h : all01 t = false) : Calls Tryd.prog 60 #[.string t, .string ⟨#[48, 49]⟩] w fun e w' => ∃ r : ByteArray, e = .returned (.string r) ∧ r.toList.isEmpty = false ∧ Below w.heap.size w w' := by
  have key := strings_Trim t ⟨#[48, 49]⟩ w (by omega) (by decide) (fun j b hj => by
    have : ([48, 49] : List UInt8)[j]? = some b := hj
    rcases j with _ | _ | j <;> simp at this <;> subst this <;> decide)
  refine key.mono ?_
  rintro e w' ⟨rfl, hb⟩
  refine ⟨_, rfl, ?_, hb⟩
  rw [← decide_eq_emptyBytes]
  exact decide_eq_false (fun e1 => by rw [(trim01 t).1 e1] at h; cases h)

set_option maxRecDepth 100000 in
set_option maxHeartbeats 6400000 in
theorem RLoad_any (C d n : Nat) (x0 x1 x2 x3 x5 x6 : Value) (regs : List Bool) (t : ByteArray) (W : World) (hS : RBox C W d x0 x1 x2 x3 x5 x6 regs) (hC : C ≤ W.heap.size) (hn : regs.length = n) (hm : t.size ≤ 1000000) :
    Calls Tryd.prog 31 #[.pointer (some ⟨d, 0, none⟩), .string t] W (RLoadPost C d x0 x1 x2 x3 x5 x6 t n W) := by
  obtain ⟨i0, hi, hz0, hz1, hz2⟩ := info_parts Tryd.lsInfoBool
  obtain ⟨ar, cr, hCd, hbox, hown⟩ := hS
  rw [hn] at hbox
  have HBOX := hid hbox
  have HC := hid hC
  have HCD := hid hCd
  clear hbox hown hC hCd
  cases hall : all01 t with
  | false =>
    have HALL := hid hall
    have HE := hid (ldErr_form (n := n) hall)
    clear hall
    go_enter Tryd.func31, Tryd.ntmps31
    go_wp2_with (go_at_call 60; (with_reducible refine (trim_no W hm HALL.out).mono ?_); rintro e w1 ⟨r, rfl, hr, hb⟩; have HB := hid hb; clear hb)
    go_ret
    exact RLoadPost.no HE.out (by decide) HB.out
  | true =>
    have HALL := hid hall
    obtain ⟨m, hmm⟩ : ∃ m, t.size = m := ⟨_, rfl⟩
    have HMM := hid hmm
    by_cases hmn : m = n
    · have HE := hid (ldErr_none (n := n) hall (by rw [hmm]; exact hmn))
      subst hmn
      clear hall
      go_enter Tryd.func31, Tryd.ntmps31
      go_wp2_with (go_at_call 60; (with_reducible refine (trim_yes W hm HALL.out).mono ?_); rintro e w1 ⟨rfl, hb⟩; have hbox1 := (hb.block d (boxLt HBOX.out)).trans HBOX.out; have z4 : w1.cell? ⟨d, 4, none⟩ = some (.slice ar m cr) := (cell_block hbox1 4).trans rfl; have HBOX1 := hid hbox1; have HB1 := hid hb; clear hb hbox1)
      clear z4
      go_loopw [5, 20] (fun v5 v wr => ∃ k : Nat, k ≤ m ∧ v = .int .i64 k ∧ wr.ownsRow w1.heap.size 4 1 v5 k (((ld t).take k).map .bool) ∧ Below w1.heap.size w1 wr) (fun _ v _ => m - (intOf v).toNat)
      case atStart => exact ⟨0, Nat.zero_le _, rfl, World.ownsRow_nil _ _ _ _, Below.refl _ _⟩
      case round =>
        obtain ⟨k, hk, rfl, hown, hbe⟩ := hrel
        have hsz := hbe.size
        have HO := hid hown
        have HB := hid hbe
        by_cases hlt : k < m
        · have hkI : (k : Int) < (m : Int) := by omega
          have hk0 : (0 : Int) ≤ (k : Int) := by omega
          have hlt' : k < t.size := by omega
          have HT := hid (ld_at hlt')
          have hyes := all01_yes HALL.out hlt'
          clear hown hbe
          by_cases h49 : (t[k]'hlt').toNat = 49
          · have d49 : ((t[k]'hlt').toNat : Int) = 49 := by omega
            have HT' : Hid ((ld t).take (k + 1) = (ld t).take k ++ [true]) := by have h := HT.out; rw [decide_eq_true h49] at h; exact h
            clear HT hyes
            go_wp2_with (at_builtin; refine wpList_push _ w1 wr rfl _ _ 62 rfl 4 i0 (.bool false) 1 1 Tryd.underlying62 hi hz0 hz1 hz2 rfl (by decide) w1.heap.size _ _ _ rfl HO.out 1 1 _ rfl rfl rfl rfl ?c3 ?c4 HB.out (Nat.le_refl _) hsz ?_)
            case c3 => unfold maxLen; omega
            case c4 => omega
            intro v' w8 hown3 hbel3 _ _
            have HO3 := hid hown3
            have HB3 := hid hbel3
            clear hown3 hbel3 HO HB
            go_wp2
            go_roundw
            case rel => exact ⟨k + 1, hlt, by go_num, by first | exact bitTake HO3.out HT'.out | exact (List.map_take ▸ bitTake HO3.out HT'.out), HB3.out⟩
            case measure => simp [intOf]; omega
          · have d49 : (((t[k]'hlt').toNat : Int) == 49) = false := beq_eq_false_iff_ne.2 (by omega)
            have HT' : Hid ((ld t).take (k + 1) = (ld t).take k ++ [false]) := by have h := HT.out; rw [decide_eq_false h49] at h; exact h
            clear HT hyes
            go_wp2_with (at_builtin; refine wpList_push _ w1 wr rfl _ _ 62 rfl 4 i0 (.bool false) 1 1 Tryd.underlying62 hi hz0 hz1 hz2 rfl (by decide) w1.heap.size _ _ _ rfl HO.out 1 1 _ rfl rfl rfl rfl ?c3 ?c4 HB.out (Nat.le_refl _) hsz ?_)
            case c3 => unfold maxLen; omega
            case c4 => omega
            intro v' w8 hown3 hbel3 _ _
            have HO3 := hid hown3
            have HB3 := hid hbel3
            clear hown3 hbel3 HO HB
            go_wp2
            go_roundw
            case rel => exact ⟨k + 1, hlt, by go_num, by first | exact bitTake HO3.out HT'.out | exact (List.map_take ▸ bitTake HO3.out HT'.out), HB3.out⟩
            case measure => simp [intOf]; omega
        · obtain rfl : m = k := by omega
          have htk : (ld t).take m = ld t := List.take_of_length_le (by rw [ld_len, HMM.out]; exact Nat.le_refl _)
          rw [htk] at hown
          obtain ⟨av, cv, rfl, _, _, _⟩ := bitRow3 hown
          have hboxr := (hbe.block d (boxLt HBOX1.out)).trans HBOX1.out
          have hf := free_block hboxr
          have z4 : wr.cell? ⟨d, 4, none⟩ = some (.slice ar m cr) := (cell_block hboxr 4).trans rfl
          have HBW := hid (HB1.out.trans (hbe.mono HB1.out.size))
          have HSET := hid (rb_set2 HCD.out (show (ld t).length = m by rw [ld_len, HMM.out]) hboxr (lsBase0 hown (Nat.le_trans HC.out HB1.out.size)))
          have hdl := boxLt hboxr
          clear hown hbe HO HB hboxr htk
          go_wp2_with fail
          go_ret
          unfold RLoadPost
          rw [if_pos HE.out]
          exact ⟨rfl, HSET.out, rd_grown HBW.out⟩
    · have HE := hid (ldErr_arg (n := n) hall (by rw [hmm]; exact hmn))
      have dmn : decide ((m : Int) = (n : Int)) = false := decide_eq_false (by omega)
      clear hall
      go_enter Tryd.func31, Tryd.ntmps31
      go_wp2_with (go_at_call 60; (with_reducible refine (trim_yes W hm HALL.out).mono ?_); rintro e w1 ⟨rfl, hb⟩; have hbox1 := (hb.block d (boxLt HBOX.out)).trans HBOX.out; have z4 : w1.cell? ⟨d, 4, none⟩ = some (.slice ar n cr) := (cell_block hbox1 4).trans rfl; have HB1 := hid hb; clear hb hbox1)
      go_ret
      exact RLoadPost.no HE.out (by decide) HB1.out
end Go.Proofs.YtlaeflpddehipabDoor

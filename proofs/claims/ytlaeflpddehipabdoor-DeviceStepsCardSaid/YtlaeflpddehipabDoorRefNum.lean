/- The document's number: a number's bytes, as a string. -/
import Derived.Test.YtlaeflpddehipabDoorTake
import Derived.Test.YtlaeflpddehipabDoorWriteMem
import Derived.Laws.BytesString
import Derived.Laws.Concat
set_option linter.unusedVariables false
set_option linter.unusedSimpArgs false
namespace Go.Proofs.YtlaeflpddehipabDoor
open Go.RowKit
attribute [local go_sem ↓] Go.wp_at_zero Go.wp_at_succ

theorem bl_append (s t : ByteArray) : bl (s ++ t) = bl s ++ bl t := by
  unfold bl
  rw [ByteArray.data_append, Array.toList_append, List.map_append]
theorem bl_eq {s t : ByteArray} (h : bl s = bl t) : s = t := by
  apply ByteArray.ext
  apply Array.ext'
  unfold bl at h
  exact List.map_inj_right (fun a b h => UInt8.toNat_inj.1 h) |>.1 h
theorem Tryd.byte_str (w : World) (z : Int) (h0 : 0 ≤ z) (h1 : z < 256) : ∃ x : ByteArray, bl x = [z.toNat] ∧ x.size = 1 ∧
    (convert 93 9 (.slice (some ⟨w.heap.size, 0, none⟩) 1 1)).run Tryd.prog (w.alloc (.cells #[.int .u8 z] 5)) = .ok (.string x) (w.alloc (.cells #[.int .u8 z] 5)) := by
  obtain ⟨k, rfl⟩ := Int.eq_ofNat_of_zero_le h0
  refine ⟨ByteArray.empty.push (UInt8.ofNat k), ?_, rfl, ?_⟩
  · have : k < 256 := by omega
    show [(UInt8.ofNat k).toNat] = [((k : Nat) : Int).toNat]
    rw [UInt8.toNat_ofNat_of_lt' (by exact this), Int.toNat_natCast]
  · rw [run_convert_bytes_string _ _ _ 5 _ _ _ Tryd.underlying93 Tryd.underlying5 Tryd.underlying9]
    have h := run_bytesToString (P := Tryd.prog) (w.alloc (.cells #[.int .u8 (k : Int)] 5)) ⟨w.heap.size, 0, none⟩ 1 1 [(k : Int)]
      (run_loadCells_list (P := Tryd.prog) (w.alloc (.cells #[.int .u8 (k : Int)] 5)) ⟨w.heap.size, 0, none⟩ [.int .u8 (k : Int)] (fun j v hv => by rw [Addr.add_at]; exact (cell_new _ _ _ _).trans (by simpa using hv)))
    simpa using h
/-- A string comes back, of these bytes. -/
def Str (l : List Nat) (w : World) (e : Ending) (w' : World) : Prop := ∃ t : ByteArray, e = .returned (.string t) ∧ bl t = l ∧ Below w.heap.size w w'
set_option maxRecDepth 100000 in
set_option maxHeartbeats 1600000 in
theorem refNumber_any (n : Nat) (hn : n < 268435456) (w : World) : Calls Tryd.prog 40 #[.int .i64 (n : Int)] w (Str (numB n) w) := by
  go_enter Tryd.func40, Tryd.ntmps40
  go_wp2_with fail
  go_loopw [0, 3] (fun v0 v3 wr => ∃ (t : ByteArray) (m fu : Nat), v0 = .int .i64 m ∧ v3 = .string t ∧ numB n = bl t ++ numTo fu m ∧ m < 128 ^ (fu + 1) ∧ fu ≤ 4 ∧ t.size + fu = 4 ∧ m ≤ n ∧ Below w.heap.size w wr) (fun v0 _ _ => (intOf v0).toNat)
  case atStart => exact ⟨⟨#[]⟩, n, 4, rfl, rfl, rfl, Nat.lt_trans hn (by decide), Nat.le_refl _, rfl, Nat.le_refl _, Below.refl _ _⟩
  case round =>
    obtain ⟨t, m, fu, rfl, rfl, hb, hm, hfu, hts, hmn, hbe⟩ := hrel
    have HB := hid hb
    have HBE := hid hbe
    clear hb hbe
    by_cases h128 : 128 ≤ m
    · have h128I : (128 : Int) ≤ (m : Int) := by omega
      obtain ⟨x, hx1, hx2, hcv⟩ := Tryd.byte_str wr ((m : Int) % 128 + 128) (by omega) (by omega)
      obtain ⟨fu', rfl⟩ : ∃ z, fu = z + 1 := ⟨fu - 1, by
        rcases fu with _ | fu
        · simp at hm; omega
        · simp⟩
      have hm2 : m / 128 < 128 ^ (fu' + 1) := by rw [Nat.pow_succ] at hm; omega
      have HM2 := hid hm2
      have hw3 : wrap64 ((m : Int) / 128) = (m : Int) / 128 := IntWalk.wrap64_in _ ⟨by omega, by omega⟩
      have HX1 := hid hx1
      have HBW := hid (show Below w.heap.size w (wr.alloc (.cells #[.int .u8 ((m : Int) % 128 + 128)] 5)) from HBE.out.alloc HBE.out.size _)
      clear hm hm2 hx1
      go_wp2_with fail
      go_roundw
      case rel =>
        refine ⟨t ++ x, m / 128, fu', val_int (by push_cast; rfl), rfl, ?_, HM2.out, by omega, by rw [ByteArray.size_append]; omega, by omega, HBW.out⟩
        rw [HB.out, bl_append, HX1.out]
        show bl t ++ (if 128 ≤ m then (m % 128 + 128) :: numTo fu' (m / 128) else [m]) = _
        rw [if_pos h128, show ((m : Int) % 128 + 128).toNat = m % 128 + 128 by omega]
        simp
      case measure => simp [intOf]; omega
    · have d128 : decide ((128 : Int) ≤ (m : Int)) = false := decide_eq_false (by omega)
      obtain ⟨x, hx1, hx2, hcv⟩ := Tryd.byte_str wr (m : Int) (by omega) (by omega)
      have HX1 := hid hx1
      have HBW := hid (show Below w.heap.size w (wr.alloc (.cells #[.int .u8 (m : Int)] 5)) from HBE.out.alloc HBE.out.size _)
      clear hm hx1
      go_wp2_with fail
      go_ret
      refine ⟨_, rfl, ?_, HBW.out⟩
      rw [HB.out, bl_append, HX1.out, Int.toNat_natCast]
      congr 1
      cases fu with
      | zero => rfl
      | succ fu => show _ = (if 128 ≤ m then _ else [m]); rw [if_neg h128]
end Go.Proofs.YtlaeflpddehipabDoor

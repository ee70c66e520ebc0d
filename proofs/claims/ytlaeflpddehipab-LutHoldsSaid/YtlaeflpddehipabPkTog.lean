/- Two lists of leaves together: sorted, each once (slices.Sort, slices.Compact: the library's contracts, laid by the shelf's lay-plain.mjs; the numbers are those of this seat). -/
import Derived.Test.YtlaeflpddehipabSrc
import Derived.Shelf.Sort.Plain
import Derived.Shelf.Slices.Turned
import Derived.Shelf.Slices.CompactI
import Derived.Lib.OwnBridge
import Derived.Sort.OwnSortedInts
set_option linter.unusedVariables false
set_option linter.unusedSimpArgs false
set_option linter.unusedSectionVars false
namespace Go.Proofs.Ytlaeflpddehipab
open Go.Shelf Go.RowKit

def Try.lays189_ren : Go.Shelf.Ren := ⟨fun | 189 => 37 | 125 => 47 | 257 => 46 | 128 => 60 | 129 => 61 | 294 => 51 | 295 => 52 | 296 => 53 | 297 => 54 | 298 => 55 | 299 => 56 | 216 => 57 | 300 => 58 | 301 => 59 | 328 => 63 | 329 => 64 | 330 => 65 | 331 => 66 | 332 => 67 | 215 => 68 | 343 => 70 | n => n, fun | 28 => 24 | 3 => 3 | 46 => 61 | 0 => 0 | 51 => 112 | 53 => 114 | 4 => 4 | 183 => 105 | 182 => 104 | 131 => 85 | 5 => 5 | 9 => 9 | 218 => 115 | 222 => 119 | 228 => 121 | 229 => 122 | n => n, fun | n => n⟩
theorem Try.lays189 : Go.Proofs.Lays.n189 Try.prog Try.lays189_ren := {
  mixed := by kernel_rfl
  f125 := Try.func47.trans (congrArg some (by kernel_rfl))
  f128 := Try.func60.trans (congrArg some (by kernel_rfl))
  f129 := Try.func61.trans (congrArg some (by kernel_rfl))
  f189 := Try.func37.trans (congrArg some (by kernel_rfl))
  f215 := Try.func68.trans (congrArg some (by kernel_rfl))
  f216 := Try.func57.trans (congrArg some (by kernel_rfl))
  f257 := Try.func46.trans (congrArg some (by kernel_rfl))
  f294 := Try.func51.trans (congrArg some (by kernel_rfl))
  f295 := Try.func52.trans (congrArg some (by kernel_rfl))
  f296 := Try.func53.trans (congrArg some (by kernel_rfl))
  f297 := Try.func54.trans (congrArg some (by kernel_rfl))
  f298 := Try.func55.trans (congrArg some (by kernel_rfl))
  f299 := Try.func56.trans (congrArg some (by kernel_rfl))
  f300 := Try.func58.trans (congrArg some (by kernel_rfl))
  f301 := Try.func59.trans (congrArg some (by kernel_rfl))
  f328 := Try.func63.trans (congrArg some (by kernel_rfl))
  f329 := Try.func64.trans (congrArg some (by kernel_rfl))
  f330 := Try.func65.trans (congrArg some (by kernel_rfl))
  f331 := Try.func66.trans (congrArg some (by kernel_rfl))
  f332 := Try.func67.trans (congrArg some (by kernel_rfl))
  f343 := Try.func70.trans (congrArg some (by kernel_rfl))
  t0 := Try.underlying0
  a0 := Try.isAgg0
  z0 := Try.sizeOf0
  v0 := Try.zeroValue0
  t3 := Try.underlying3
  a3 := Try.isAgg3
  z3 := Try.sizeOf3
  v3 := Try.zeroValue3
  t4 := Try.underlying4
  a4 := Try.isAgg4
  z4 := Try.sizeOf4
  v4 := Try.zeroValue4
  t5 := Try.underlying5
  a5 := Try.isAgg5
  z5 := Try.sizeOf5
  v5 := Try.zeroValue5
  t9 := Try.underlying9
  a9 := Try.isAgg9
  z9 := Try.sizeOf9
  v9 := Try.zeroValue9
  t28 := Try.underlying24
  a28 := Try.isAgg24
  z28 := Try.sizeOf24
  v28 := Try.zeroValue24
  t46 := Try.underlying61
  a46 := Try.isAgg61
  z46 := Try.sizeOf61
  v46 := Try.zeroValue61
  t51 := Try.underlying112
  a51 := Try.isAgg112
  z51 := Try.sizeOf112
  v51 := Try.zeroValue112
  t53 := Try.underlying114
  a53 := Try.isAgg114
  z53 := Try.sizeOf114
  v53 := Try.zeroValue114
  t131 := Try.underlying85
  a131 := Try.isAgg85
  z131 := Try.sizeOf85
  v131 := Try.zeroValue85
  t182 := Try.underlying104
  a182 := Try.isAgg104
  z182 := Try.sizeOf104
  v182 := Try.zeroValue104
  t183 := Try.underlying105
  a183 := Try.isAgg105
  z183 := Try.sizeOf105
  v183 := Try.zeroValue105
  t218 := Try.underlying115
  a218 := Try.isAgg115
  z218 := Try.sizeOf115
  v218 := Try.zeroValue115
  t222 := Try.underlying119
  a222 := Try.isAgg119
  z222 := Try.sizeOf119
  v222 := Try.zeroValue119
  t228 := Try.underlying121
  a228 := Try.isAgg121
  z228 := Try.sizeOf121
  v228 := Try.zeroValue121
  t229 := Try.underlying122
  a229 := Try.isAgg122
  z229 := Try.sizeOf122
  v229 := Try.zeroValue122 }
open Go.Sort Go.RowKit in
theorem Try.slices_Sort_int (blk off cap : Nat) (zs : List Int) (w : World) (hH : Holds (Value.int .i64) w blk off zs.toArray) (hblk : blk < w.heap.size) (hsz : zs.length < 4611686018427387904) :
    Calls Try.prog 37 #[.slice (some ⟨blk, off, none⟩) zs.length cap] w fun e w' =>
      e = .returned (.tuple #[]) ∧ ∃ n os, w' = grow (putRow (Value.int .i64) (Sort.ahead w n) blk off (zs.mergeSort fun x y => decide (x ≤ y)).toArray) os := Any.slices_Sort_int Try.lays189 blk off cap zs w hH hblk hsz
def Try.lays108_ren : Go.Shelf.Ren := ⟨fun | 108 => 44 | n => n, fun | 28 => 24 | 3 => 3 | 0 => 0 | 4 => 4 | n => n, fun | n => n⟩
theorem Try.lays108 : Go.Proofs.Lays.n108 Try.prog Try.lays108_ren := {
  mixed := by kernel_rfl
  f108 := Try.func44.trans (congrArg some (by kernel_rfl))
  t0 := Try.underlying0
  a0 := Try.isAgg0
  z0 := Try.sizeOf0
  v0 := Try.zeroValue0
  t3 := Try.underlying3
  a3 := Try.isAgg3
  z3 := Try.sizeOf3
  v3 := Try.zeroValue3
  t4 := Try.underlying4
  a4 := Try.isAgg4
  z4 := Try.sizeOf4
  v4 := Try.zeroValue4
  t28 := Try.underlying24
  a28 := Try.isAgg24
  z28 := Try.sizeOf24
  v28 := Try.zeroValue24 }
open Go.Lib in
theorem Try.slices_Index_int (b off n c : Nat) (zs : List Int) (x : Int) (w : World) (hz : n ≤ zs.length) (hbig : n ≤ 9223372036854775807) (hc : ∀ j, j < zs.length → w.cell? ⟨b, off + j, none⟩ = some (.int .i64 (zs.getD j 0))) :
    Calls Try.prog 44 #[.slice (some ⟨b, off, none⟩) n c, .int .i64 x] w fun e w' => e = .returned (.int .i64 (Lib.idxOf (zs.take n) x)) ∧ w' = w := Any.slices_Index_int Try.lays108 b off n c zs x w hz hbig hc
def Try.laysNm220_ren : Go.Shelf.Ren := ⟨fun | 20 => 38 | n => n, fun | 22 => 24 | 3 => 3 | 4 => 4 | 0 => 0 | n => n, fun | n => n⟩
theorem Try.laysNm220 : Go.Proofs.Lays2.n20 Try.prog Try.laysNm220_ren := {
  mixed := by kernel_rfl
  f20 := Try.func38.trans (congrArg some (by kernel_rfl))
  t0 := Try.underlying0
  a0 := Try.isAgg0
  z0 := Try.sizeOf0
  v0 := Try.zeroValue0
  t3 := Try.underlying3
  a3 := Try.isAgg3
  z3 := Try.sizeOf3
  v3 := Try.zeroValue3
  t4 := Try.underlying4
  a4 := Try.isAgg4
  z4 := Try.sizeOf4
  v4 := Try.zeroValue4
  t22 := Try.underlying24
  a22 := Try.isAgg24
  z22 := Try.sizeOf24
  v22 := Try.zeroValue24
  i3 := by kernel_rfl }
open Go.RowKit Go.Lib Go.Sort in
theorem Try.slices_Compact_int (blk off cap : Nat) (zs : List Int) (w : World) (hH : Holds (Value.int .i64) w blk off zs.toArray) (hsz : zs.length ≤ 9223372036854775807) (hcap : zs.length ≤ cap) :
    Calls Try.prog 38 #[.slice (some ⟨blk, off, none⟩) zs.length cap] w fun e w' => e = .returned (.slice (some ⟨blk, off, none⟩) (Lib.compact zs).length cap) ∧ ∃ q, w' = putRow (Value.int .i64) (Sort.ahead w q) blk off (Lib.compact zs ++ List.replicate (zs.length - (Lib.compact zs).length) 0).toArray := Any.slices_Compact_int Try.laysNm220 blk off cap zs w hH hsz hcap

attribute [local go_sem ↓] Go.wp_at_zero Go.wp_at_succ
theorem Try.pkInt : (Try.prog.info? 3).map (fun i => (i.zero, i.size, i.bytes)) = some (some (.int .i64 0), 1, 8) := by kernel_rfl
/-- A row of numbers of the call's own, as cells. -/
theorem pkRow {w : World} {base n : Nat} {v : Value} {l : List Int} (h : w.ownsRow base 3 1 v n (l.map (.int .i64))) : ∃ a c, v = .slice a n c ∧ n ≤ c ∧ (a = none → n = 0 ∧ c = 0) ∧ Cells w.heap.size w a n (fun j => .int .i64 (l.getD j 0)) := by
  have hl : l.length = n := by simpa using h.1
  rcases h.2 with ⟨rfl, h0⟩ | ⟨g, cap, cur, rfl, hg, hh, hn, _⟩
  · exact ⟨none, 0, by rw [h0], by omega, fun _ => ⟨h0, rfl⟩, .inl h0⟩
  · obtain ⟨a, c, e, h1, _, hc⟩ := Cells.of_owns h
    cases e
    refine ⟨_, cap, rfl, h1, (fun e => by cases e), ?_⟩
    rw [Nat.mul_one] at hc
    exact hc.congr fun j hj => by simp [List.getD_eq_getElem?_getD, hl, hj]
theorem pkNews {B : Nat} {W : World} {a : Option Addr} {n : Nat} {l : List Int} (h : Cells B W a n (fun j => .int .i64 (l.getD j 0))) (hl : l.length = n) :
    ∀ ad', a = some ad' → ∀ j u, (l.map (Value.int .i64))[j]? = some u → W.cell? (ad'.add j) = some u := by
  rintro ad' rfl
  exact h.news (by simpa using hl) (fun j hj => by simp [List.getD_eq_getElem?_getD, hl, hj])

set_option maxHeartbeats 800000 in
/-- An empty row with room. -/
theorem PkGrow (n : Nat) (w : World) (hn : 0 < n) (hm : n ≤ 1000000) :
    Calls Try.prog 45 #[.slice none 0 0, .int .i64 (n : Int)] w fun e w' => ∃ v, e = .returned v ∧ w'.ownsRow w.heap.size 3 1 v 0 [] ∧ Below w.heap.size w w' := by
  obtain ⟨i0, hi, hz0, hz1, hz2⟩ := info_parts Try.pkInt
  have hn0 : (0 : Int) < (n : Int) := by omega
  have hn1 : ¬ ((n : Int) < 0) := by omega
  go_enter Try.func45, Try.ntmps45
  go_wp2_with (at_builtin; refine wpList_zeros _ w rfl _ _ 24 3 rfl 3 i0 (.int .i64 0) .i64 .i64 8 Try.underlying24 Try.underlying3 hi hz0 hz1 hz2 rfl rfl w.heap.size (.slice none 0 0) 0 [] rfl (World.ownsRow_nil _ _ _ _) n rfl hn ?c1 ?c2 (Below.refl _ _) (Nat.le_refl _) (Nat.le_refl _) ?_)
  case c1 => unfold maxLen; omega
  case c2 => omega
  intro v' w1 hown hb hg
  rcases hown.2 with ⟨rfl, h0⟩ | ⟨g, cap, cur, rfl, hgb, hgg, hnc, hcm, hsz, htk⟩
  · omega
  · have HE := hid (show w1.ownsRow w.heap.size 3 1 (.slice (some ⟨g, 0, none⟩) 0 cap) 0 [] from ⟨rfl, .inr ⟨g, cap, cur, rfl, hgb, hgg, Nat.zero_le _, hcm, hsz, rfl⟩⟩)
    have HB := hid hb
    clear hown hb hg hgg htk hsz
    go_wp2
    go_ret
    exact ⟨_, rfl, HE.out, HB.out⟩

set_option maxRecDepth 100000 in
set_option maxHeartbeats 1600000 in
theorem PkConcat (r : Nat) (a a' : Option Addr) (n n' c c' : Nat) (l l' : List Int) (w : World) (h0 : w.cell? ⟨r, 0, none⟩ = some (.slice a n c)) (h1 : w.cell? ⟨r, 1, none⟩ = some (.slice a' n' c')) (hr : r < w.heap.size)
    (hl : l.length = n) (hl' : l'.length = n') (hc : Cells w.heap.size w a n (fun j => .int .i64 (l.getD j 0))) (hc' : Cells w.heap.size w a' n' (fun j => .int .i64 (l'.getD j 0))) (hn : a = none → n = 0 ∧ c = 0) (hn' : a' = none → n' = 0 ∧ c' = 0) (hp : 0 < n + n') (hm : n + n' ≤ 100000) :
    Calls Try.prog 36 #[.slice (some ⟨r, 0, none⟩) 2 2] w fun e w' => ∃ v, e = .returned v ∧ w'.ownsRow w.heap.size 3 1 v (n + n') ((l ++ l').map (.int .i64)) ∧ Below w.heap.size w w' := by
  obtain ⟨i0, hi, hz0, hz1, hz2⟩ := info_parts Try.pkInt
  have HL := hid hl
  have HL' := hid hl'
  have HC := hid hc
  have HC' := hid hc'
  have HN := hid hn
  have HN' := hid hn'
  have H0 := hid h0
  have H1 := hid h1
  obtain ⟨N, hN⟩ : ∃ N, n + n' = N := ⟨_, rfl⟩
  have HNN := hid hN
  rw [hN] at hp hm
  clear hl hl' hc hc' hn hn' hN
  go_enter Try.func36, Try.ntmps36
  go_wp2
  go_loopw [3, 11] (fun v3 v wr => wr = w ∧ ((v = .int .i64 0 ∧ v3 = .int .i64 0) ∨ (v = .int .i64 1 ∧ v3 = .int .i64 (n : Int)) ∨ (v = .int .i64 2 ∧ v3 = .int .i64 (N : Int)))) (fun _ v _ => 2 - (intOf v).toNat)
  case atStart => exact ⟨rfl, .inl ⟨rfl, rfl⟩⟩
  case round =>
    obtain ⟨hw, hcase⟩ := hrel
    subst wr
    rcases hcase with ⟨rfl, rfl⟩ | ⟨rfl, rfl⟩ | ⟨rfl, rfl⟩
    · have z0 : ¬ ((n : Int) < 0) := by omega
      have hnn := HNN.out
      go_wp2_with fail
      go_roundw
      case rel => exact ⟨by first | rfl | trivial, .inr (.inl ⟨by go_num, by go_num⟩)⟩
      case measure => simp [intOf]
    · have z0 : ¬ (((n : Int) + (n' : Int)) < 0) := by omega
      have hnn := HNN.out
      go_wp2_with fail
      go_roundw
      case rel => exact ⟨by first | rfl | trivial, .inr (.inr ⟨by go_num, by first | go_num | exact val_int (by omega)⟩)⟩
      case measure => simp [intOf]
    · go_wp2_with (go_at_call 45; (with_reducible refine (PkGrow N w hp (by omega)).mono ?_); rintro e w1 ⟨v, rfl, hv, hb⟩; have HV := hid hv; have HB := hid hb; clear hv hb)
      have hszb := HB.out.size
      have hrlt : r < w1.heap.size := by omega
      clear h0 h1
      go_loopw [6, 27] (fun v6 i wr => ∃ k : Nat, i = .int .i64 k ∧ Below w.heap.size w wr ∧ ((k = 0 ∧ wr.ownsRow w.heap.size 3 1 v6 0 []) ∨ (k = 1 ∧ wr.ownsRow w.heap.size 3 1 v6 n (l.map (.int .i64))) ∨ (k = 2 ∧ wr.ownsRow w.heap.size 3 1 v6 N ((l ++ l').map (.int .i64))))) (fun _ i _ => 2 - (intOf i).toNat)
      case atStart => exact ⟨0, rfl, HB.out, .inl ⟨rfl, HV.out⟩⟩
      case round =>
        obtain ⟨k, rfl, hbe, hcase⟩ := hrel
        have hszr := hbe.size
        have hnn := HNN.out
        have HBE := hid hbe
        have h0 := (hbe.cell (p := ⟨r, 0, none⟩) hr).trans H0.out
        have h1 := (hbe.cell (p := ⟨r, 1, none⟩) hr).trans H1.out
        clear HB HV
        rcases hcase with ⟨rfl, hown⟩ | ⟨rfl, hown⟩ | ⟨rfl, hown⟩
        · have HO := hid hown
          have HNEW := hid (pkNews ((HC.out.stay hbe).mono hszr) HL.out)
          clear hown hbe
          go_wp2_with (at_builtin; refine wpSrc _ rfl _ _ 24 rfl w.heap.size 3 i0 _ 1 8 Try.underlying24 hi hz0 hz1 hz2 rfl (by decide) _ 0 [] rfl HO.out a n c (l.map (.int .i64)) rfl HN.out (by simpa using HL.out) HNEW.out (ints_one _) ?_ ?_ ?_ ?_; (focus (unfold maxLen; omega)); (focus omega); (focus omega); intro av cv w2 HP hown2 hg2; have HB2 := hid (HBE.out.grown hg2.out HBE.out.size (fun q hq => (HP.out.lt q hq).1)); have HR2 := hid hown2.out; clear HP hown2 hg2)
          go_roundw
          case rel => exact ⟨1, by go_num, HB2.out, .inr (.inl ⟨rfl, by have h := HR2.out; rw [Nat.zero_add, List.nil_append] at h; first | exact h | (rw [Nat.zero_add]; exact h)⟩)⟩
          case measure => simp [intOf]
        · have HO := hid hown
          have HNEW := hid (pkNews ((HC'.out.stay hbe).mono hszr) HL'.out)
          clear hown hbe
          go_wp2_with (at_builtin; refine wpSrc _ rfl _ _ 24 rfl w.heap.size 3 i0 _ 1 8 Try.underlying24 hi hz0 hz1 hz2 rfl (by decide) _ n (l.map (.int .i64)) rfl HO.out a' n' c' (l'.map (.int .i64)) rfl HN'.out (by simpa using HL'.out) HNEW.out (ints_one _) ?_ ?_ ?_ ?_; (focus (unfold maxLen; omega)); (focus omega); (focus omega); intro av cv w2 HP hown2 hg2; have HB2 := hid (HBE.out.grown hg2.out HBE.out.size (fun q hq => (HP.out.lt q hq).1)); have HR2 := hid hown2.out; clear HP hown2 hg2)
          go_roundw
          case rel => exact ⟨2, by go_num, HB2.out, .inr (.inr ⟨rfl, by rw [List.map_append, ← HNN.out]; have h := HR2.out; first | exact h | (rw [HNN.out] at h ⊢; exact h)⟩)⟩
          case measure => simp [intOf]
        · have HO := hid hown
          clear hown hbe
          go_wp2_with fail
          go_ret
          exact ⟨_, rfl, by rw [HNN.out]; exact HO.out, HBE.out⟩
/-- The leaves of both, each once, in order. -/
def pkBoth (l l' : List Int) : List Int := Lib.compact ((l ++ l').mergeSort fun x y => decide (x ≤ y))
theorem pkBoth_len (l l' : List Int) : (pkBoth l l').length ≤ l.length + l'.length := by
  have h := Lib.compact_length_le ((l ++ l').mergeSort fun x y => decide (x ≤ y))
  rw [List.length_mergeSort, List.length_append] at h
  exact h
/-- slices.Sort, of a row of the call's own. -/
theorem PkSort (base n : Nat) (v : Value) (l : List Int) (w : World) (h : w.ownsRow base 3 1 v n (l.map (.int .i64))) (hn : 0 < n) (hm : n ≤ 100000) :
    Calls Try.prog 37 #[v] w fun e w' => e = .returned (.tuple #[]) ∧ w'.ownsRow base 3 1 v n ((l.mergeSort fun x y => decide (x ≤ y)).map (.int .i64)) ∧ w.grownBy w' v.ownBlock := by
  have hv : v ≠ .slice none 0 0 := by
    rintro rfl
    rcases h.2 with ⟨_, h0⟩ | ⟨g, cap, cur, e, _⟩
    · omega
    · cases e
  obtain ⟨g, cap, rfl, hbg, hglt, hnc, hcm, hl, hH⟩ := Lib.holds_of_ownsRow (enc := Value.int .i64) h hv
  rcases h.2 with ⟨e, _⟩ | ⟨g', cap', cur, e, _, hgg, _, _, hsz, _⟩
  · cases e
  · cases e
    subst hl
    refine (Try.slices_Sort_int g 0 cap l w hH hglt (by omega)).mono ?_
    rintro e w' ⟨rfl, q, os, rfl⟩
    exact ⟨rfl, ownsRow_sortedI (by rw [List.length_mergeSort]) hbg hgg hnc hcm hsz, grownBy_sortedI _⟩
/-- slices.Compact, of a row of the call's own. -/
theorem PkCompact (base n : Nat) (v : Value) (l : List Int) (w : World) (h : w.ownsRow base 3 1 v n (l.map (.int .i64))) (hn : 0 < n) (hm : n ≤ 100000) :
    Calls Try.prog 38 #[v] w fun e w' => ∃ v', e = .returned v' ∧ w'.ownsRow base 3 1 v' (Lib.compact l).length ((Lib.compact l).map (.int .i64)) ∧ w.grownBy w' v.ownBlock := by
  have hv : v ≠ .slice none 0 0 := by
    rintro rfl
    rcases h.2 with ⟨_, h0⟩ | ⟨g, cap, cur, e, _⟩
    · omega
    · cases e
  obtain ⟨g, cap, rfl, hbg, hglt, hnc, hcm, hl, hH⟩ := Lib.holds_of_ownsRow (enc := Value.int .i64) h hv
  subst hl
  refine (Try.slices_Compact_int g 0 cap l w hH (by omega) hnc).mono ?_
  rintro e w' ⟨rfl, q, rfl⟩
  have hle := Lib.compact_length_le l
  have key := Lib.ownsRow_putRow (enc := Value.int .i64) (q := q) (k := (Lib.compact l).length) (ys := Lib.compact l ++ List.replicate (l.length - (Lib.compact l).length) 0) h (by simp; omega) hle
  rw [List.take_left] at key
  have hg := grownBy_sortedI (w := w) (g := g) (n := q) (os := #[]) (Lib.compact l ++ List.replicate (l.length - (Lib.compact l).length) 0).toArray
  rw [Sort.grow_empty] at hg
  exact ⟨_, rfl, key, hg⟩
set_option maxHeartbeats 800000 in
theorem PkTog (a a' : Option Addr) (n n' c c' : Nat) (l l' : List Int) (w : World)
    (hl : l.length = n) (hl' : l'.length = n') (hc : Cells w.heap.size w a n (fun j => .int .i64 (l.getD j 0))) (hc' : Cells w.heap.size w a' n' (fun j => .int .i64 (l'.getD j 0))) (hn : a = none → n = 0 ∧ c = 0) (hn' : a' = none → n' = 0 ∧ c' = 0) (hp : 0 < n + n') (hm : n + n' ≤ 100000)
    (k : Nat) (t : List Int) (ht : pkBoth l l' = t) (hk : t.length = k) (hk4 : k ≤ 4) :
    Calls Try.prog 30 #[.slice a n c, .slice a' n' c'] w fun e w' => ∃ v, e = .returned (.tuple #[v, .bool true]) ∧ w'.ownsRow w.heap.size 3 1 v k (t.map (.int .i64)) ∧ Below w.heap.size w w' := by
  have HBA := hid (show Below w.heap.size w (w.alloc (.cells #[.slice a n c, .slice a' n' c'] 24)) from (Below.refl _ _).alloc (Nat.le_refl _) _)
  have HS0 := hid (show (w.alloc (.cells #[.slice a n c, .slice a' n' c'] 24)).cell? ⟨w.heap.size, 0, none⟩ = some (.slice a n c) from (cell_new _ _ _ _).trans rfl)
  have HS1 := hid (show (w.alloc (.cells #[.slice a n c, .slice a' n' c'] 24)).cell? ⟨w.heap.size, 1, none⟩ = some (.slice a' n' c') from (cell_new _ _ _ _).trans rfl)
  have HSZ := hid (show w.heap.size < (w.alloc (.cells #[.slice a n c, .slice a' n' c'] 24)).heap.size by simp)
  have HL := hid hl
  have HL' := hid hl'
  have HC := hid hc
  have HC' := hid hc'
  have HN := hid hn
  have HN' := hid hn'
  have HT := hid ht
  have HK := hid hk
  have hk4I : ((k : Int) ≤ 4) := by omega
  clear hl hl' hc hc' hn hn' ht hk
  go_enter Try.func30, Try.ntmps30
  go_wp2_with (first
    | (go_at_call 36; (((with_reducible refine (PkConcat w.heap.size a a' n n' c c' l l' _ HS0.out HS1.out HSZ.out HL.out HL'.out ((HC.out.stay HBA.out).mono (Nat.le_of_lt HSZ.out)) ((HC'.out.stay HBA.out).mono (Nat.le_of_lt HSZ.out)) HN.out HN'.out hp hm).mono ?_); rintro e w2 ⟨v, rfl, hv, hb⟩; have HV := hid (lsBase0 hv (Nat.le_of_lt HSZ.out)); have HB2 := hid (HBA.out.trans (hb.mono (Nat.le_of_lt HSZ.out))); clear hv hb)))
    | (go_at_call 37; ((with_reducible refine (PkSort w.heap.size (n + n') v (l ++ l') w2 HV.out hp hm).mono ?_); rintro e w3 ⟨rfl, hv, hg⟩; have HB3 := hid (HB2.out.grown hg HB2.out.size (fun q hq => (HV.out.lt q hq).1)); have HV3 := hid hv; clear hv hg))
    | (go_at_call 38; (with_reducible refine (PkCompact w.heap.size (n + n') v _ w3 HV3.out hp hm).mono ?_); rintro e w4 ⟨v4, rfl, hv, hg⟩; have HB4 := hid (HB3.out.grown hg HB3.out.size (fun q hq => (HV3.out.lt q hq).1)); (have HV4 := hid hv); (unfold Hid at HV4; rw [show Lib.compact ((l ++ l').mergeSort fun x y => decide (x ≤ y)) = t from HT.out, HK.out] at HV4); obtain ⟨a4, c4, rfl, _⟩ := pkRow HV4; have HV5 := hid HV4; clear hv hg HV4))
  go_ret2
  exact ⟨_, rfl, HV5.out, HB4.out⟩
end Go.Proofs.Ytlaeflpddehipab

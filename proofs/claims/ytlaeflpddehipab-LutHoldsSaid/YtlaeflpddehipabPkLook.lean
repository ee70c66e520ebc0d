/- lut.packer.look (written by gen_pklook.py). -/
import Derived.Test.YtlaeflpddehipabPkStable
set_option linter.unusedVariables false
set_option linter.unusedSimpArgs false
set_option linter.unusedSectionVars false
namespace Go.Proofs.Ytlaeflpddehipab
open Go.RowKit
attribute [local go_sem ↓] Go.wp_at_zero Go.wp_at_succ

/-- The cuts' row behind some adds; what else was there stays. -/
structure LookSt (W w : World) (bc k : Nat) (cur : Array Value) (B i c : Nat) (a : Option Addr) (xs : List Value) : Prop where
  row : w.heap[bc]? = some (.cells (cur.setIfInBounds k (.slice a i c)) 81 (0, 0))
  own : w.ownsRow B 83 2 (.slice a i c) i xs
  os : w.os = W.os
  tape : w.tape = W.tape
  output : w.output = W.output
  size : W.heap.size ≤ w.heap.size
  far : ∀ z, z < W.heap.size → z ≠ bc → w.heap[z]? = W.heap[z]?
theorem LookSt.cell {W w : World} {bc k B i c z o : Nat} {cur : Array Value} {a : Option Addr} {xs : List Value} {v : Value} (h : LookSt W w bc k cur B i c a xs) (hc : W.cell? ⟨z, o, none⟩ = some v) (hz : z < W.heap.size) (hne : z ≠ bc) : w.cell? ⟨z, o, none⟩ = some v := by
  rw [← hc]
  unfold World.cell?
  simp only
  rw [h.far z hz hne]
theorem pkNe {w : World} {B n T z : Nat} {v : Value} {xs : List Value} {cs : Array Value} (h : w.ownsRow B 83 2 v n xs) (hz : w.heap[z]? = some (.cells cs T (0, 0))) (hne : 83 ≠ T) : some z ≠ v.ownBlock := fun e => rowBoxNe h hz hne e.symm
theorem lookFirst {w : World} {B g n c c9 : Nat} {a : Option Addr} {d : Int} (h : w.ownsRow B 83 2 (.slice a 1 c9) 1 ([] ++ cutCells g n c d)) : ∃ gc, a = some ⟨gc, 0, none⟩ ∧ gc < w.heap.size ∧ w.cell? ⟨gc, 0, none⟩ = some (.slice (some ⟨g, 0, none⟩) n c) ∧ w.cell? ⟨gc, 1, none⟩ = some (.int .i64 d) := by
  rcases h.2 with ⟨_, h0⟩ | ⟨gc, cap, cur2, e, hgc, hgh, hnc, _, _, htk⟩
  · omega
  · cases e
    have hat : ∀ (j : Nat) (u : Value), (cutCells g n c d)[j]? = some u → w.cell? ⟨gc, j, none⟩ = some u := fun j u hj => by
      rw [cell_block hgh j]
      have h2 : (cur2.toList.take (1 * 2))[j]? = some u := by rw [htk]; exact hj
      have hj2 : j < 2 := by have := (List.getElem?_eq_some_iff.1 hj).1; simpa [cutCells] using this
      rw [List.getElem?_take_of_lt (by omega), Array.getElem?_toList] at h2
      exact h2
    exact ⟨gc, rfl, boxLt hgh, hat 0 _ rfl, hat 1 _ rfl⟩
/-- One add more. -/
theorem LookSt.next {WA wr w4 w5 : World} {bc k B i c cv : Nat} {cur : Array Value} {a av : Option Addr} {xs ys : List Value} (h : LookSt WA wr bc k cur B i c a xs) (hB : WA.heap.size ≤ B) (hb : Below wr.heap.size wr w4)
    (h1 : w5.heap[bc]? = some (.cells ((cur.setIfInBounds k (.slice a i c)).setIfInBounds k (.slice av (i + 1) cv)) 81 (0, 0))) (h2 : w5.ownsRow B 83 2 (.slice av (i + 1) cv) (i + 1) (xs ++ ys))
    (h3 : w5.os = w4.os ∧ w5.tape = w4.tape ∧ w5.output = w4.output ∧ w4.heap.size ≤ w5.heap.size ∧ ∀ z, z < w4.heap.size → z ≠ bc → some z ≠ (Value.slice a i c).ownBlock → w5.heap[z]? = w4.heap[z]?) :
    LookSt WA w5 bc k cur B (i + 1) cv av (xs ++ ys) := by
  obtain ⟨h31, h32, h33, h34, h35⟩ := h3
  refine ⟨by rw [h1, Array.setIfInBounds_setIfInBounds], h2, h31.trans (hb.os.trans h.os), h32.trans (hb.tape.trans h.tape), h33.trans (hb.output.trans h.output), Nat.le_trans h.size (Nat.le_trans hb.size h34), fun z hz hne => ?_⟩
  have hzr : z < wr.heap.size := Nat.lt_of_lt_of_le hz h.size
  rw [h35 z (Nat.lt_of_lt_of_le hzr hb.size) hne (fun e => by have := (h.own.lt z e.symm).1; omega), hb.block z hzr, h.far z hz hne]
theorem pkMx_nil : ∀ o, pkMx [] o = 0
  | 0 => rfl
  | o + 1 => by show max (pkMx [] o) _ = 0; rw [pkMx_nil o]; simp
/-- Leaves in a block of numbers. -/
def LeafB (W : World) (g : Nat) (l : List Nat) : Prop := (∃ cs, W.heap[g]? = some (.cells cs 3 (0, 0))) ∧ Leaves W g (l.map Int.ofNat)
theorem LeafB.keep {W w : World} {g : Nat} {l : List Nat} (h : LeafB W g l) (e : w.heap[g]? = W.heap[g]?) : LeafB w g l := by
  obtain ⟨⟨cs, hcs⟩, hl⟩ := h
  refine ⟨⟨cs, e.trans hcs⟩, fun j hj => ?_⟩
  rw [← hl j hj]
  unfold World.cell?
  simp only
  rw [e]
theorem LeafB.all {W : World} {g : Nat} {l : List Nat} (h : LeafB W g l) : Leaves W g (l.map Int.ofNat) := h.2
theorem LeafB.lt {W : World} {g : Nat} {l : List Nat} (h : LeafB W g l) : g < W.heap.size := by
  obtain ⟨⟨cs, hcs⟩, _⟩ := h
  exact boxLt hcs
theorem LeafB.cells {W : World} {g : Nat} {l : List Nat} (h : LeafB W g l) : Cells W.heap.size W (some ⟨g, 0, none⟩) l.length (fun j => .int .i64 ((l.map Int.ofNat).getD j 0)) :=
  .inr ⟨g, 0, rfl, h.lt, fun j hj => h.2 j (by simpa using hj)⟩
theorem LeafB.cells' {W : World} {g n : Nat} {l : List Nat} {m : List Int} (h : LeafB W g l) (hn : l.length = n) (hm : l.map Int.ofNat = m) : Cells W.heap.size W (some ⟨g, 0, none⟩) n (fun j => .int .i64 (m.getD j 0)) := by
  subst hn hm
  exact h.cells
theorem lookGet {cur : Array Value} {k : Nat} {u v : Value} (h : cur[k]? = some u) : (cur.setIfInBounds k v)[k]? = some v := by
  have := (Array.getElem?_eq_some_iff.1 h).1
  rw [Array.getElem?_setIfInBounds_self]
  simp [this]
theorem LeafB.of_row {w : World} {base n : Nat} {v : Value} {l : List Nat} (h : w.ownsRow base 3 1 v n ((l.map Int.ofNat).map (.int .i64))) (hn : 0 < n) : ∃ g c, v = .slice (some ⟨g, 0, none⟩) n c ∧ base ≤ g ∧ LeafB w g l := by
  rcases h.2 with ⟨_, h0⟩ | ⟨g, cap, cur, rfl, hb, hg, hr⟩
  · omega
  · obtain ⟨a, c, e, _, _, hc⟩ := pkRow h
    cases e
    have hl : l.length = n := by simpa using h.1
    refine ⟨g, cap, rfl, hb, ⟨cur, hg⟩, fun j hj => ?_⟩
    obtain ⟨b5, o5, e5, _, hc5⟩ := hc.at hn
    cases e5
    exact hc5 j (by rw [← hl]; simpa using hj)
theorem LeafB.one {W : World} {q k : Nat} (h : W.heap[q]? = some (.cells #[.int .i64 (k : Int)] 3 (0, 0))) : LeafB W q [k] :=
  ⟨⟨_, h⟩, fun j hj => by
    obtain rfl : j = 0 := by simpa using hj
    rw [cell_block h]
    rfl⟩
theorem pk_min2 {P : Program} {w : World} (ts : Array TypeId) (t : TypeId) (x y : Int) : (Builtin.min_ ts t #[.int .i64 x, .int .i64 y]).run P w = .ok (.int .i64 (min x y)) w := by
  have h1 : (if y < x then y else x) = min x y := by omega
  simp [Builtin.min_, Builtin.min2]
  omega
attribute [local go_sem] pk_min2
/-- What is so behind the last write. -/
theorem lookEnd {W WA wr wz : World} {bc k gc gt nt ct n1 cap : Nat} {cur : Array Value} {t : List Nat} (hW : Below W.heap.size W WA) (hbcA : bc < WA.heap.size) (hrow : wr.heap[bc]? = some (.cells (cur.setIfInBounds k (.slice (some ⟨gc, 0, none⟩) n1 cap)) 81 (0, 0)))
    (hos : wr.os = WA.os ∧ wr.tape = WA.tape ∧ wr.output = WA.output ∧ WA.heap.size ≤ wr.heap.size ∧ ∀ z, z < WA.heap.size → z ≠ bc → wr.heap[z]? = WA.heap[z]?)
    (hgc : WA.heap.size ≤ gc) (hgcl : gc < wr.heap.size) (c0 : wr.cell? ⟨gc, 0, none⟩ = some (.slice (some ⟨gt, 0, none⟩) nt ct)) (c1 : wr.cell? ⟨gc, 1, none⟩ = some (.int .i64 1)) (hleaf : LeafB wr gt t) (hgt : WA.heap.size ≤ gt)
    (hz : (wr.setCell ⟨bc, k, none⟩ (.slice (some ⟨gc, 0, none⟩) n1 cap)).drew = wz) :
    wz.heap[bc]? = some (.cells (cur.setIfInBounds k (.slice (some ⟨gc, 0, none⟩) n1 cap)) 81 (0, 0)) ∧ wz.cell? ⟨gc, 0, none⟩ = some (.slice (some ⟨gt, 0, none⟩) nt ct) ∧ wz.cell? ⟨gc, 1, none⟩ = some (.int .i64 1) ∧ LeafB wz gt t ∧ W.heap.size ≤ gc ∧ gc < wz.heap.size ∧ W.heap.size ≤ gt ∧ W.grownBy wz (some bc) := by
  subst hz
  obtain ⟨h1, h2, h3, h4, h5⟩ := hos
  have hs := hW.size
  have hf : ∀ z, z ≠ bc → ((wr.setCell ⟨bc, k, none⟩ (.slice (some ⟨gc, 0, none⟩) n1 cap)).drew).heap[z]? = wr.heap[z]? := fun z hz => heap_setCell_other _ _ _ _ hz
  have hb := boxSet hrow k (.slice (some ⟨gc, 0, none⟩) n1 cap)
  rw [Array.setIfInBounds_setIfInBounds] at hb
  have hc : ∀ j, ((wr.setCell ⟨bc, k, none⟩ (.slice (some ⟨gc, 0, none⟩) n1 cap)).drew).cell? ⟨gc, j, none⟩ = wr.cell? ⟨gc, j, none⟩ := fun j => by
    unfold World.cell?
    simp only
    rw [hf gc (by omega)]
  have hsz : ((wr.setCell ⟨bc, k, none⟩ (.slice (some ⟨gc, 0, none⟩) n1 cap)).drew).heap.size = wr.heap.size := by simp [World.setCell, World.drew]
  refine ⟨hb, (hc 0).trans c0, (hc 1).trans c1, hleaf.keep (hf gt (by omega)), by omega, by omega, by omega, h1.trans hW.os, h2.trans hW.tape, h3.trans hW.output, by omega, fun z hz hne => ?_⟩
  have hne' : z ≠ bc := fun e => hne (by rw [e])
  rw [hf z hne', h5 z (by omega) hne', hW.block z hz]
section
variable (bp bN bl n cn bc ncc : Nat)
/-- How deep a leaf lies: a node without cuts, or node x, with one. -/
theorem pkBestAny (W' : World) (cur : Array Value) (v : Value) (k lo x g3 c3 dv : Nat) (hlo : lo < n) (x1 : W'.cell? ⟨bp, 1, none⟩ = some (.slice (some ⟨bc, 0, none⟩) n ncc)) (hbc : W'.heap[bc]? = some (.cells (cur.setIfInBounds k v) 81 (0, 0))) (hk : lo ≠ k)
    (h : (cur[lo]? = some (.slice none 0 0) ∧ dv = 0) ∨ (cur[lo]? = some (.slice (some ⟨g3, 0, none⟩) 1 c3) ∧ dv = 1 ∧ W'.cell? ⟨g3, 1, none⟩ = some (.int .i64 1))) :
    Calls Try.prog 42 #[.pointer (some ⟨bp, 0, none⟩), .int .i64 (lo : Int)] W' fun e w' => e = .returned (.int .i64 ((dv : Nat) : Int)) ∧ w' = W' := by
  have hget : (cur.setIfInBounds k v)[lo]? = cur[lo]? := by rw [Array.getElem?_setIfInBounds_ne (fun e => hk e.symm)]
  rcases h with ⟨h, rfl⟩ | ⟨h, rfl, hz⟩
  · exact PkBest0 bp bc n ncc W' lo hlo x1 ((cell_block hbc lo).trans (hget.trans h))
  · exact PkBest1 bp bc n ncc W' lo g3 1 c3 1 hlo x1 ((cell_block hbc lo).trans (hget.trans h)) (by omega) hz
theorem LookSt.best {WA wo w4 : World} {k i c : Nat} {a : Option Addr} {cur : Array Value} {xs : List Value} (h : LookSt WA wo bc k cur WA.heap.size i c a xs) (hb : Below wo.heap.size wo w4) (hX : WA.cell? ⟨bp, 1, none⟩ = some (.slice (some ⟨bc, 0, none⟩) n ncc)) (hbpA : bp < WA.heap.size) (hbpc : bp ≠ bc) (hbcA : bc < WA.heap.size)
    (g3 c3 nt : Nat) (t dl : List Nat) (hg3 : g3 < WA.heap.size) (hg3c : g3 ≠ bc) (hd : ∀ o, o < nt → t.getD o 0 < n ∧ t.getD o 0 ≠ k ∧ ((cur[t.getD o 0]? = some (.slice none 0 0) ∧ dl.getD o 0 = 0) ∨ (cur[t.getD o 0]? = some (.slice (some ⟨g3, 0, none⟩) 1 c3) ∧ dl.getD o 0 = 1 ∧ WA.cell? ⟨g3, 1, none⟩ = some (.int .i64 1)))) :
    ∀ (W' : World) (o : Nat), Below w4.heap.size w4 W' → o < nt → Calls Try.prog 42 #[.pointer (some ⟨bp, 0, none⟩), .int .i64 ((t.getD o 0 : Nat) : Int)] W' fun e w' => e = .returned (.int .i64 ((dl.getD o 0 : Nat) : Int)) ∧ w' = W' := by
  intro W' o hb' ho
  obtain ⟨h1, h2, h3⟩ := hd o ho
  have hszr := h.size
  have hbw := hb.trans (hb'.mono hb.size)
  refine pkBestAny bp n bc ncc W' cur _ k _ 0 g3 c3 _ h1 ((hbw.cell (p := ⟨bp, 1, none⟩) (Nat.lt_of_lt_of_le hbpA hszr)).trans (h.cell hX hbpA hbpc)) ((hbw.block bc (Nat.lt_of_lt_of_le hbcA hszr)).trans h.row) h2 ?_
  rcases h3 with h3 | ⟨h3, h4, h5⟩
  · exact .inl h3
  · exact .inr ⟨h3, h4, (hbw.cell (p := ⟨g3, 1, none⟩) (Nat.lt_of_lt_of_le hg3 hszr)).trans (h.cell h5 hg3 hg3c)⟩
theorem LookSt.leaf {WA wo w4 w5 : World} {k i c gt : Nat} {a : Option Addr} {cur : Array Value} {xs : List Value} {t : List Nat} (h : LookSt WA wo bc k cur WA.heap.size i c a xs) (hb : Below wo.heap.size wo w4) (hbcA : bc < WA.heap.size) (hl : LeafB w4 gt t)
    (h5 : ∀ z, z < w4.heap.size → z ≠ bc → some z ≠ (Value.slice a i c).ownBlock → w5.heap[z]? = w4.heap[z]?) : LeafB w5 gt t := by
  obtain ⟨cs9, hcs9⟩ := hl.1
  refine hl.keep (h5 gt hl.lt (fun e => ?_) (pkNe (rowOld h.own hb) hcs9 (by decide)))
  rw [e, hb.block bc (Nat.lt_of_lt_of_le hbcA h.size), h.row] at hcs9
  cases hcs9
set_option maxRecDepth 100000 in
set_option maxHeartbeats 25600000 in
theorem PkLook1 (W : World) (k xa xb nt : Nat) (nx : Int) (t : List Nat) (cur : Array Value) (hM : PkM W bp bN bl n cn) (hN : PkNode W bl k 5 (xa : Int) (xb : Int) nx) (hkn : k < n) (hxa : xa < n) (hxb : xb < n) (hka : xa ≠ k) (hkb : xb ≠ k) (hopb : W.cell? ⟨bl, xb * 4, none⟩ = some (.int .i64 3)) (hbpc : bp ≠ bc)
    (x1 : W.cell? ⟨bp, 1, none⟩ = some (.slice (some ⟨bc, 0, none⟩) n ncc)) (hbc : W.heap[bc]? = some (.cells cur 81 (0, 0))) (hck : cur[k]? = some (.slice none 0 0)) (hcb : cur[xb]? = some (.slice none 0 0))
    (hopa : W.cell? ⟨bl, xa * 4, none⟩ = some (.int .i64 3)) (hca : cur[xa]? = some (.slice none 0 0))
    (ht : pkBoth [(xa : Int)] [(xb : Int)] = t.map Int.ofNat) (hnt : t.length = nt) (hpt : 0 < nt) (h4t : nt ≤ 4) (hdt : ∀ o, o < nt → t.getD o 0 < n ∧ t.getD o 0 ≠ k ∧ cur[t.getD o 0]? = some (.slice none 0 0)) :
    Calls Try.prog 24 #[.pointer (some ⟨bp, 0, none⟩), .int .i64 (k : Int)] W fun e w' =>
      ∃ g c gt ct, e = .returned (.tuple #[]) ∧ w'.heap[bc]? = some (.cells (cur.setIfInBounds k (.slice (some ⟨g, 0, none⟩) 1 c)) 81 (0, 0)) ∧ w'.cell? ⟨g, 0, none⟩ = some (.slice (some ⟨gt, 0, none⟩) nt ct) ∧ w'.cell? ⟨g, 1, none⟩ = some (.int .i64 1) ∧ LeafB w' gt t ∧ W.heap.size ≤ g ∧ g < w'.heap.size ∧ W.heap.size ≤ gt ∧ W.grownBy w' (some bc) := by
  have d0 := hN.d0
  have d1 := hN.d1
  have d2 := hN.d2
  have d3 := hN.d3
  have z0 := hM.x0
  have z1 := hM.x1
  have hl0 := hM.l0
  have hl2 := hM.l2
  have hbcl := boxLt hbc
  have hkI : (k : Int) < (n : Int) := by omega
  have hk0 : (0 : Int) ≤ (k : Int) := by omega
  have hw0 : IntKind.i64.wrap 0 = 0 := by decide
  have HW := hid (show ∀ W1, (W.alloc (.cells #[.int .i64 5, .int .i64 (xa : Int), .int .i64 (xb : Int), .int .i64 nx] 48)).alloc (.cells #[.slice none 0 0] 24) = W1 → Below W.heap.size W W1 ∧ W1.cell? ⟨W.heap.size, 0, none⟩ = some (.int .i64 5) ∧ W1.cell? ⟨W.heap.size, 1, none⟩ = some (.int .i64 (xa : Int)) ∧ W1.cell? ⟨W.heap.size, 2, none⟩ = some (.int .i64 (xb : Int)) ∧ W.heap.size < W1.heap.size from by
    rintro W1 rfl
    have hb := alloc_at W (.cells #[.int .i64 5, .int .i64 (xa : Int), .int .i64 (xb : Int), .int .i64 nx] 48)
    have h2 : ((W.alloc (.cells #[.int .i64 5, .int .i64 (xa : Int), .int .i64 (xb : Int), .int .i64 nx] 48)).alloc (.cells #[.slice none 0 0] 24)).heap[W.heap.size]? = some (.cells #[.int .i64 5, .int .i64 (xa : Int), .int .i64 (xb : Int), .int .i64 nx] 48 (0, 0)) := (Below.heap_alloc _ _ _ (by simp)).trans hb
    exact ⟨((Below.refl _ _).alloc (Nat.le_refl _) _).alloc (by simp) _, (cell_block h2 0).trans rfl, (cell_block h2 1).trans rfl, (cell_block h2 2).trans rfl, by simp; omega⟩)
  have HHM := hid hM
  have HHOPA := hid hopa
  have HHOPB := hid hopb
  have HX1 := hid x1
  have HHBC := hid hbc
  have HHCK := hid hck
  have HHCA := hid hca
  have HHCB := hid hcb
  have HHT := hid ht
  have HHNT := hid hnt
  have HHDT := hid hdt
  clear hN hM hopa hopb x1 hbc hck hca hcb ht hnt hdt
  go_enter Try.func24, Try.ntmps24
  go_upto_region 3 with fail
  obtain ⟨W1, hW1⟩ : ∃ W1, (W.alloc (.cells #[.int .i64 5, .int .i64 (xa : Int), .int .i64 (xb : Int), .int .i64 nx] 48)).alloc (.cells #[.slice none 0 0] 24) = W1 := ⟨_, rfl⟩
  obtain ⟨hb1, e0, e1, e2, hlt1⟩ := HW.out W1 hW1
  rw [hW1]
  have HB1 := hid hb1
  have HE1 := hid e1
  clear hW1 HW hb1 d0 d1 d2 d3 z0 z1
  go_upto_region 4 with (go_at_call 29; (with_reducible refine (PkWays0 bp bN bl n cn bc ncc W1 xb 3 (HHM.out.stay HB1.out) hxb ((HB1.out.cell (p := ⟨bl, xb * 4, none⟩) hl2).trans HHOPB.out) (by decide) (by decide) ((HB1.out.cell (p := ⟨bp, 1, none⟩) hl0).trans HX1.out) ((HB1.out.cell (p := ⟨bc, xb, none⟩) hbcl).trans ((cell_block HHBC.out xb).trans HHCB.out)) (Nat.lt_of_lt_of_le hbcl HB1.out.size)).mono ?_); rintro e w2 ⟨r2, q2, rfl, hr2, hq2, hq2l, hr2l, hb2⟩; have HR2 := hid hr2; have HQ2 := hid hq2; have HB2 := hid (HB1.out.trans (hb2.mono HB1.out.size)); have e12 := (hb2.cell (p := ⟨W.heap.size, 1, none⟩) hlt1).trans HE1.out; have hs12 := hb2.size; clear hr2 hq2 hb2)
  clear e0 e1 e2
  go_wp2_with (go_at_call 29; (with_reducible refine (PkWays0 bp bN bl n cn bc ncc w2 xa 3 (HHM.out.stay HB2.out) hxa ((HB2.out.cell (p := ⟨bl, xa * 4, none⟩) hl2).trans HHOPA.out) (by decide) (by decide) ((HB2.out.cell (p := ⟨bp, 1, none⟩) hl0).trans HX1.out) ((HB2.out.cell (p := ⟨bc, xa, none⟩) hbcl).trans ((cell_block HHBC.out xa).trans HHCA.out)) (Nat.lt_of_lt_of_le hbcl HB2.out.size)).mono ?_); rintro e WA ⟨r1, q1, rfl, hr1, hq1, hq1l, hr1l, hb3⟩; have HR1 := hid hr1; have HCS0 : Hid ((#[Value.slice (some ⟨q1, 0, none⟩) 1 1] : Array Value)[0]? = some (.slice (some ⟨q1, 0, none⟩) 1 1)) := rfl; have HQ1 := hid hq1; have HB3 := hid (HB2.out.trans (hb3.mono HB2.out.size)); have HR2A := hid ((hb3.block r2 (boxLt HR2.out)).trans HR2.out); have HQ2A := hid ((hb3.block q2 (boxLt HQ2.out)).trans HQ2.out); clear hr1 hq1 hb3)
  clear e12
  have HSTA : Hid (LookSt WA WA bc k cur WA.heap.size 0 0 none []) := by
    have h1 := (HB3.out.block bc hbcl).trans HHBC.out
    refine ⟨?_, World.ownsRow_nil _ _ _ _, rfl, rfl, rfl, Nat.le_refl _, fun _ _ _ => rfl⟩
    rw [h1]
    congr 2
    apply Array.ext_getElem?
    intro j
    by_cases hj : j = k
    · subst hj
      rw [Array.getElem?_setIfInBounds_self, HHCK.out]
      have := (Array.getElem?_eq_some_iff.1 HHCK.out).1
      simp [this]
    · rw [Array.getElem?_setIfInBounds_ne (fun e => hj e.symm)]
  have hbpA : bp < WA.heap.size := Nat.lt_of_lt_of_le hl0 HB3.out.size
  have hX1A := hid ((HB3.out.cell (p := ⟨bp, 1, none⟩) hl0).trans HX1.out)
  have hr1A := boxLt HR1.out
  have hr2A := boxLt HR2A.out
  have hbcA : bc < WA.heap.size := Nat.lt_of_lt_of_le hbcl HB3.out.size
  have HBCA := hid ((HB3.out.block bc hbcl).trans HHBC.out)
  have hne1 : r1 ≠ bc := fun e => by have h := HR1.out; rw [e, HBCA.out] at h; cases h
  have hne2 : r2 ≠ bc := fun e => by have h := HR2A.out; rw [e, HBCA.out] at h; cases h
  have hneq1 : q1 ≠ bc := fun e => by have h := HQ1.out; rw [e, HBCA.out] at h; cases h
  have hneq2 : q2 ≠ bc := fun e => by have h := HQ2A.out; rw [e, HBCA.out] at h; cases h
  have hq1A := boxLt HQ1.out
  have hq2A := boxLt HQ2A.out
  go_loopw [35] (fun v wr => ∃ i : Nat, v = .int .i64 (i : Int) ∧ ((i = 0 ∧ LookSt WA wr bc k cur WA.heap.size 0 0 none []) ∨ (i = 1 ∧ ∃ a c gt ct, LookSt WA wr bc k cur WA.heap.size 1 c a ([] ++ cutCells gt nt ct ((0 + 1 : Nat) : Int)) ∧ LeafB wr gt t ∧ WA.heap.size ≤ gt))) (fun v _ => 1 - (intOf v).toNat)
  case atStart => exact ⟨0, rfl, .inl ⟨rfl, HSTA.out⟩⟩
  case round =>
    obtain ⟨i, rfl, hcase⟩ := hrel
    rcases hcase with ⟨rfl, hst⟩ | ⟨rfl, a, c, gt, ct, hst, hleaf, hgtl⟩
    · rw [show ((0 : Nat) : Int) = 0 from rfl]
      obtain ⟨wo, rfl⟩ : ∃ wo : World, wo = wr := ⟨_, rfl⟩
      have HST := hid hst
      have c1 := hst.cell ((cell_block HR1.out 0).trans HCS0.out) hr1A hne1
      have c2 := hst.cell ((cell_block HR2A.out 0).trans rfl) hr2A hne2
      have HLM := hid ((LeafB.one HQ1.out).keep (hst.far q1 hq1A hneq1))
      have HLN := hid ((LeafB.one HQ2A.out).keep (hst.far q2 hq2A hneq2))
      have hszr := hst.size
      have HDX0 := hid (show ∀ o, o < nt → t.getD o 0 < n ∧ t.getD o 0 ≠ k ∧ ((cur[t.getD o 0]? = some (.slice none 0 0) ∧ ([] : List Nat).getD o 0 = 0) ∨ (cur[t.getD o 0]? = some (.slice (some ⟨bp, 0, none⟩) 1 0) ∧ ([] : List Nat).getD o 0 = 1 ∧ WA.cell? ⟨bp, 1, none⟩ = some (.int .i64 1))) from fun o ho => ⟨(HHDT.out o ho).1, (HHDT.out o ho).2.1, .inl ⟨(HHDT.out o ho).2.2, by simp⟩⟩)
      clear hst
      go_wp2_with fail
      clear c1
      go_loopw [41] (fun v wz => ∃ j : Nat, v = .int .i64 (j : Int) ∧ ((j = 0 ∧ wz = wo) ∨ (j = 1 ∧ ∃ a' c' gt ct, LookSt WA wz bc k cur WA.heap.size (0 + 1) c' a' ([] ++ cutCells gt nt ct ((0 + 1 : Nat) : Int)) ∧ LeafB wz gt t ∧ WA.heap.size ≤ gt))) (fun v _ => 1 - (intOf v).toNat)
      case atStart => exact ⟨0, rfl, .inl ⟨rfl, rfl⟩⟩
      case round =>
        obtain ⟨j, rfl, hcj⟩ := hrel
        rcases hcj with ⟨rfl, hwz⟩ | ⟨rfl, a', c', gt', ct', hst', hleaf', hgtl'⟩
        · subst wr
          rw [show ((0 : Nat) : Int) = 0 from rfl]
          go_wp2_with (first
            | (go_at_call 30; (with_reducible refine (PkTog (some ⟨q1, 0, none⟩) (some ⟨q2, 0, none⟩) 1 1 1 1 [(xa : Int)] [(xb : Int)] wo rfl rfl (HLM.out.cells' rfl rfl) (HLN.out.cells' rfl rfl) (by intro h; cases h) (by intro h; cases h) (by omega) (by omega) nt _ HHT.out (by rw [List.length_map]; exact HHNT.out) h4t).mono ?_); rintro e w4 ⟨v, rfl, hv, hb4⟩; obtain ⟨gt9, ct9, rfl, hgt9, hlf9⟩ := LeafB.of_row hv hpt; have HLF := hid hlf9; have HB4 := hid hb4; have hszb := hb4.size; have HGT9 := hid hgt9; clear hv hb4 hlf9 hgt9)
            | (go_at_call 31; (with_reducible refine (PkAddTo bp bc n ncc WA.heap.size w4 k gt9 nt ct9 0 0 none t [] [] (cur.setIfInBounds k (.slice none 0 0)) hkn hbpA (by omega) ((HB4.out.cell (p := ⟨bp, 1, none⟩) (Nat.lt_of_lt_of_le hbpA hszr)).trans (HST.out.cell hX1A.out hbpA hbpc)) ((HB4.out.block bc (Nat.lt_of_lt_of_le hbcA hszr)).trans HST.out.row) (lookGet HHCK.out) (rowOld HST.out.own HB4.out) (by omega) HLF.out.all HHNT.out HLF.out.lt (fun o => by simp) (by omega)
                (HST.out.best bp n bc ncc HB4.out hX1A.out hbpA hbpc hbcA bp 0 nt t [] hbpA hbpc HDX0.out)
                (fun W' bx hb' hx hl => PkHas0 none 0 bx W')).mono ?_); rintro e w5 ⟨av, cv, rfl, h51, h52, h53⟩; rw [pkMx_nil] at h52; have HST5 := hid (HST.out.next (Nat.le_refl _) HB4.out h51 h52 h53); have HLF5 := hid (HST.out.leaf bc HB4.out hbcA HLF.out h53.2.2.2.2); clear h51 h52 h53))
          go_roundw
          case rel => exact ⟨1, by go_num, .inr ⟨rfl, av, cv, gt9, ct9, HST5.out, HLF5.out, Nat.le_trans hszr HGT9.out⟩⟩
          case measure => simp [intOf]
        · rw [show ((1 : Nat) : Int) = 1 from rfl]
          have HST9 := hid hst'
          have HLF9 := hid hleaf'
          clear hst' hleaf'
          go_wp2_with fail
          go_roundw
          case rel => exact ⟨0 + 1, by go_num, .inr ⟨rfl, a', c', gt', ct', HST9.out, HLF9.out, hgtl'⟩⟩
          case measure => simp [intOf]
    · rw [show ((1 : Nat) : Int) = 1 from rfl]
      have hszr := hst.size
      obtain ⟨gc, e9, hgc, hgch, hnc, htk⟩ : ∃ gc, a = some ⟨gc, 0, none⟩ ∧ WA.heap.size ≤ gc ∧ (∃ cs, wr.heap[gc]? = some (.cells cs 83 (0, 0))) ∧ 1 ≤ c ∧ ∀ (j : Nat) (u : Value), (([] ++ cutCells gt nt ct ((0 + 1 : Nat) : Int)) : List Value)[j]? = some u → wr.cell? ⟨gc, j, none⟩ = some u := by
        rcases hst.own.2 with ⟨_, h0⟩ | ⟨gc, cap, cur2, e, hgc, hgh, hnc, _, _, htk⟩
        · omega
        · cases e
          refine ⟨gc, rfl, hgc, ⟨cur2, hgh⟩, hnc, fun j u hj => ?_⟩
          rw [cell_block hgh j]
          have h2 : (cur2.toList.take (1 * 2))[j]? = some u := by rw [htk]; exact hj
          have hj2 : j < 2 := by have := (List.getElem?_eq_some_iff.1 hj).1; simpa [cutCells] using this
          rw [List.getElem?_take_of_lt (by omega), Array.getElem?_toList] at h2
          exact h2
      subst e9
      have k0 := htk 0 _ rfl
      have k1 := htk 1 _ rfl
      obtain ⟨csg, hcsg⟩ := hgch
      have hgcl := boxLt hcsg
      have b1 := hst.cell hX1A.out hbpA hbpc
      have b2 : wr.cell? ⟨bc, k, none⟩ = some (.slice (some ⟨gc, 0, none⟩) 1 c) := (cell_block hst.row k).trans (lookGet HHCK.out)
      have HOS := hid (⟨hst.os, hst.tape, hst.output, hst.size, hst.far⟩ : wr.os = WA.os ∧ wr.tape = WA.tape ∧ wr.output = WA.output ∧ WA.heap.size ≤ wr.heap.size ∧ ∀ z, z < WA.heap.size → z ≠ bc → wr.heap[z]? = WA.heap[z]?)
      have HROW := hid hst.row
      have HLF := hid hleaf
      have HCSG := hid hcsg
      have K0 := hid k0
      have K1 := hid k1
      have hncI : (1 : Int) ≤ (c : Int) := by omega
      have hmin : min (6 : Int) 1 = 1 := by decide
      clear hst hleaf htk k0 k1 hcsg
      go_upto_region 16 with (go_at_call 32; (with_reducible refine (PkStable1 gc c wr).mono ?_); rintro e w1 ⟨rfl, hw1⟩; subst w1)
      have hfr := free_block HROW.out
      have hbcl9 := boxLt HROW.out
      refine wpEnds.begin (fun w' => w'.cell? ⟨bp, 1, none⟩ = some (.slice (some ⟨bc, 0, none⟩) n ncc) ∧ w'.cell? ⟨bc, k, none⟩ = some (.slice (some ⟨gc, 0, none⟩) 1 c)) 23 (by kernel_rfl) ⟨b1, b2⟩ (fun hHeld => ?_)
      refine wpEnds.take 0 24 (v := ?vaz0) rfl (by kernel_rfl) (by kernel_rfl) (by kernel_rfl) (by kernel_rfl) (by kernel_rfl) (fun _ _ _ h => h) (by kernel_rfl) hHeld (fun w' hSw => ?hyaz0) ?restaz0
      case hyaz0 => ((try dsimp only at hSw); go_simp; try with_reducible rfl)
      case restaz0 =>
      (try simp only [Act.put, List.setIfInBounds_toArray, List.set_cons_zero, List.set_cons_succ])
      refine wpEnds.take 1 24 (v := ?vaz1) rfl (by kernel_rfl) (by kernel_rfl) (by kernel_rfl) (by kernel_rfl) (by kernel_rfl) (fun _ _ _ h => h) (by kernel_rfl) hHeld (fun w' hSw => ?hyaz1) ?restaz1
      case hyaz1 => ((try dsimp only at hSw); go_simp; try with_reducible rfl)
      case restaz1 =>
      (try simp only [Act.put, List.setIfInBounds_toArray, List.set_cons_zero, List.set_cons_succ])
      refine wpEnds.take 2 24 (v := ?vaz2) rfl (by kernel_rfl) (by kernel_rfl) (by kernel_rfl) (by kernel_rfl) (by kernel_rfl) (fun _ _ _ h => h) (by kernel_rfl) hHeld (fun w' hSw => ?hyaz2) ?restaz2
      case hyaz2 => ((try dsimp only at hSw); go_simp; try with_reducible rfl)
      case restaz2 =>
      (try simp only [Act.put, List.setIfInBounds_toArray, List.set_cons_zero, List.set_cons_succ])
      refine wpEnds.take 3 24 (v := ?vaz3) rfl (by kernel_rfl) (by kernel_rfl) (by kernel_rfl) (by kernel_rfl) (by kernel_rfl) (fun _ _ _ h => h) (by kernel_rfl) hHeld (fun w' hSw => ?hyaz3) ?restaz3
      case hyaz3 => ((try dsimp only at hSw); go_simp; try with_reducible rfl)
      case restaz3 =>
      (try simp only [Act.put, List.setIfInBounds_toArray, List.set_cons_zero, List.set_cons_succ])
      refine wpEnds.take 4 24 (v := ?vaz4) rfl (by kernel_rfl) (by kernel_rfl) (by kernel_rfl) (by kernel_rfl) (by kernel_rfl) (fun _ _ _ h => h) (by kernel_rfl) hHeld (fun w' hSw => ?hyaz4) ?restaz4
      case hyaz4 => ((try dsimp only at hSw); go_simp; try with_reducible rfl)
      case restaz4 =>
      (try simp only [Act.put, List.setIfInBounds_toArray, List.set_cons_zero, List.set_cons_succ])
      refine wpEnds.take 5 24 (v := ?vaz5) rfl (by kernel_rfl) (by kernel_rfl) (by kernel_rfl) (by kernel_rfl) (by kernel_rfl) (fun _ _ _ h => h) (by kernel_rfl) hHeld (fun w' hSw => ?hyaz5) ?restaz5
      case hyaz5 => ((try dsimp only at hSw); go_simp; try with_reducible rfl)
      case restaz5 =>
      (try simp only [Act.put, List.setIfInBounds_toArray, List.set_cons_zero, List.set_cons_succ])
      refine wpEnds.take 6 24 (v := ?vaz6) rfl (by kernel_rfl) (by kernel_rfl) (by kernel_rfl) (by kernel_rfl) (by kernel_rfl) (fun _ _ _ h => h) (by kernel_rfl) hHeld (fun w' hSw => ?hyaz6) ?restaz6
      case hyaz6 => ((try dsimp only at hSw); go_simp; try with_reducible rfl)
      case restaz6 =>
      (try simp only [Act.put, List.setIfInBounds_toArray, List.set_cons_zero, List.set_cons_succ])
      refine wpEnds.take 7 24 (v := ?vaz7) rfl (by kernel_rfl) (by kernel_rfl) (by kernel_rfl) (by kernel_rfl) (by kernel_rfl) (fun _ _ _ h => h) (by kernel_rfl) hHeld (fun w' hSw => ?hyaz7) ?restaz7
      case hyaz7 => ((try dsimp only at hSw); go_simp; try with_reducible rfl)
      case restaz7 =>
      (try simp only [Act.put, List.setIfInBounds_toArray, List.set_cons_zero, List.set_cons_succ])
      refine wpEnds.take 8 24 (v := ?vaz8) rfl (by kernel_rfl) (by kernel_rfl) (by kernel_rfl) (by kernel_rfl) (by kernel_rfl) (fun _ _ _ h => h) (by kernel_rfl) hHeld (fun w' hSw => ?hyaz8) ?restaz8
      case hyaz8 => ((try dsimp only at hSw); go_simp; try with_reducible rfl)
      case restaz8 =>
      (try simp only [Act.put, List.setIfInBounds_toArray, List.set_cons_zero, List.set_cons_succ])
      refine wpEnds.take 9 24 (v := ?vaz9) rfl (by kernel_rfl) (by kernel_rfl) (by kernel_rfl) (by kernel_rfl) (by kernel_rfl) (fun _ _ _ h => h) (by kernel_rfl) hHeld (fun w' hSw => ?hyaz9) ?restaz9
      case hyaz9 => ((try dsimp only at hSw); go_simp; try with_reducible rfl)
      case restaz9 =>
      (try simp only [Act.put, List.setIfInBounds_toArray, List.set_cons_zero, List.set_cons_succ])
      refine wpEnds.take 10 24 (v := ?vaz10) rfl (by kernel_rfl) (by kernel_rfl) (by kernel_rfl) (by kernel_rfl) (by kernel_rfl) (fun _ _ _ h => h) (by kernel_rfl) hHeld (fun w' hSw => ?hyaz10) ?restaz10
      case hyaz10 => ((try dsimp only at hSw); go_simp; try with_reducible rfl)
      case restaz10 =>
      (try simp only [Act.put, List.setIfInBounds_toArray, List.set_cons_zero, List.set_cons_succ])
      refine wpEnds.take 11 24 (v := ?vaz11) rfl (by kernel_rfl) (by kernel_rfl) (by kernel_rfl) (by kernel_rfl) (by kernel_rfl) (fun _ _ _ h => h) (by kernel_rfl) hHeld (fun w' hSw => ?hyaz11) ?restaz11
      case hyaz11 => ((try dsimp only at hSw); go_simp; try with_reducible rfl)
      case restaz11 =>
      (try simp only [Act.put, List.setIfInBounds_toArray, List.set_cons_zero, List.set_cons_succ])
      refine wpEnds.take 12 24 (v := ?vaz12) rfl (by kernel_rfl) (by kernel_rfl) (by kernel_rfl) (by kernel_rfl) (by kernel_rfl) (fun _ _ _ h => h) (by kernel_rfl) hHeld (fun w' hSw => ?hyaz12) ?restaz12
      case hyaz12 => ((try dsimp only at hSw); go_simp; try with_reducible rfl)
      case restaz12 =>
      (try simp only [Act.put, List.setIfInBounds_toArray, List.set_cons_zero, List.set_cons_succ])
      refine wpEnds.take 13 24 (v := ?vaz13) rfl (by kernel_rfl) (by kernel_rfl) (by kernel_rfl) (by kernel_rfl) (by kernel_rfl) (fun _ _ _ h => h) (by kernel_rfl) hHeld (fun w' hSw => ?hyaz13) ?restaz13
      case hyaz13 => ((try dsimp only at hSw); go_simp; try with_reducible rfl)
      case restaz13 =>
      (try simp only [Act.put, List.setIfInBounds_toArray, List.set_cons_zero, List.set_cons_succ])
      refine wpEnds.take 14 24 (v := ?vaz14) rfl (by kernel_rfl) (by kernel_rfl) (by kernel_rfl) (by kernel_rfl) (by kernel_rfl) (fun _ _ _ h => h) (by kernel_rfl) hHeld (fun w' hSw => ?hyaz14) ?restaz14
      case hyaz14 => ((try dsimp only at hSw); go_simp; try with_reducible rfl)
      case restaz14 =>
      (try simp only [Act.put, List.setIfInBounds_toArray, List.set_cons_zero, List.set_cons_succ])
      refine wpEnds.take 15 24 (v := ?vaz15) rfl (by kernel_rfl) (by kernel_rfl) (by kernel_rfl) (by kernel_rfl) (by kernel_rfl) (fun _ _ _ h => h) (by kernel_rfl) hHeld (fun w' hSw => ?hyaz15) ?restaz15
      case hyaz15 => ((try dsimp only at hSw); go_simp; try with_reducible rfl)
      case restaz15 =>
      (try simp only [Act.put, List.setIfInBounds_toArray, List.set_cons_zero, List.set_cons_succ])
      refine wpEnds.take 16 24 (v := ?vaz16) rfl (by kernel_rfl) (by kernel_rfl) (by kernel_rfl) (by kernel_rfl) (by kernel_rfl) (fun _ _ _ h => h) (by kernel_rfl) hHeld (fun w' hSw => ?hyaz16) ?restaz16
      case hyaz16 => ((try dsimp only at hSw); go_simp; try with_reducible rfl)
      case restaz16 =>
      (try simp only [Act.put, List.setIfInBounds_toArray, List.set_cons_zero, List.set_cons_succ])
      refine wpEnds.take 17 24 (v := ?vaz17) rfl (by kernel_rfl) (by kernel_rfl) (by kernel_rfl) (by kernel_rfl) (by kernel_rfl) (fun _ _ _ h => h) (by kernel_rfl) hHeld (fun w' hSw => ?hyaz17) ?restaz17
      case hyaz17 => ((try dsimp only at hSw); go_simp; try with_reducible rfl)
      case restaz17 =>
      (try simp only [Act.put, List.setIfInBounds_toArray, List.set_cons_zero, List.set_cons_succ])
      refine wpEnds.take 18 24 (v := ?vaz18) rfl (by kernel_rfl) (by kernel_rfl) (by kernel_rfl) (by kernel_rfl) (by kernel_rfl) (fun _ _ _ h => h) (by kernel_rfl) hHeld (fun w' hSw => ?hyaz18) ?restaz18
      case hyaz18 => ((try dsimp only at hSw); go_simp; try with_reducible rfl)
      case restaz18 =>
      (try simp only [Act.put, List.setIfInBounds_toArray, List.set_cons_zero, List.set_cons_succ])
      refine wpEnds.take 19 24 (v := ?vaz19) rfl (by kernel_rfl) (by kernel_rfl) (by kernel_rfl) (by kernel_rfl) (by kernel_rfl) (fun _ _ _ h => h) (by kernel_rfl) hHeld (fun w' hSw => ?hyaz19) ?restaz19
      case hyaz19 => ((try dsimp only at hSw); go_simp; try with_reducible rfl)
      case restaz19 =>
      (try simp only [Act.put, List.setIfInBounds_toArray, List.set_cons_zero, List.set_cons_succ])
      refine wpEnds.take 20 24 (v := ?vaz20) rfl (by kernel_rfl) (by kernel_rfl) (by kernel_rfl) (by kernel_rfl) (by kernel_rfl) (fun _ _ _ h => h) (by kernel_rfl) hHeld (fun w' hSw => ?hyaz20) ?restaz20
      case hyaz20 => ((try dsimp only at hSw); go_simp; try with_reducible rfl)
      case restaz20 =>
      (try simp only [Act.put, List.setIfInBounds_toArray, List.set_cons_zero, List.set_cons_succ])
      refine wpEnds.take 21 24 (v := ?vaz21) rfl (by kernel_rfl) (by kernel_rfl) (by kernel_rfl) (by kernel_rfl) (by kernel_rfl) (fun _ _ _ h => h) (by kernel_rfl) hHeld (fun w' hSw => ?hyaz21) ?restaz21
      case hyaz21 => ((try dsimp only at hSw); go_simp; try with_reducible rfl)
      case restaz21 =>
      (try simp only [Act.put, List.setIfInBounds_toArray, List.set_cons_zero, List.set_cons_succ])
      refine wpEnds.take 22 24 (v := ?vaz22) rfl (by kernel_rfl) (by kernel_rfl) (by kernel_rfl) (by kernel_rfl) (by kernel_rfl) (fun _ _ _ h => h) (by kernel_rfl) hHeld (fun w' hSw => ?hyaz22) ?restaz22
      case hyaz22 => ((try dsimp only at hSw); go_simp; try with_reducible rfl)
      case restaz22 =>
      (try simp only [Act.put, List.setIfInBounds_toArray, List.set_cons_zero, List.set_cons_succ])
      refine wpEnds.last 23 (by kernel_rfl) (by kernel_rfl) rfl (fun K hK => ?_)
      go_simp
      refine hK.out _ _ ?_
      clear hK K
      (try simp only [Act.put, List.setIfInBounds_toArray, List.set_cons_zero, List.set_cons_succ])
      obtain ⟨wz, hwz⟩ : ∃ wz, (wr.setCell ⟨bc, k, none⟩ (.slice (some ⟨gc, 0, none⟩) 1 c)).drew = wz := ⟨_, rfl⟩
      have HEND := hid (lookEnd HB3.out hbcA HROW.out HOS.out hgc hgcl K0.out K1.out HLF.out hgtl hwz)
      rw [hwz]
      clear hwz
      go_wp2_with fail
      go_end0
      exact ⟨gc, c, gt, ct, rfl, HEND.out⟩
set_option maxRecDepth 100000 in
set_option maxHeartbeats 25600000 in
theorem PkLook2 (W : World) (k xa xb nt : Nat) (nx : Int) (t : List Nat) (cur : Array Value) (g3 c3 gl3 cl3 nt1 : Nat) (l3 t1 dl : List Nat) (hM : PkM W bp bN bl n cn) (hN : PkNode W bl k 6 (xa : Int) (xb : Int) nx) (hkn : k < n) (hxa : xa < n) (hxb : xb < n) (hka : xa ≠ k) (hkb : xb ≠ k) (hopb : W.cell? ⟨bl, xb * 4, none⟩ = some (.int .i64 3)) (hbpc : bp ≠ bc)
    (x1 : W.cell? ⟨bp, 1, none⟩ = some (.slice (some ⟨bc, 0, none⟩) n ncc)) (hbc : W.heap[bc]? = some (.cells cur 81 (0, 0))) (hck : cur[k]? = some (.slice none 0 0)) (hcb : cur[xb]? = some (.slice none 0 0))
    (hopa : W.cell? ⟨bl, xa * 4, none⟩ = some (.int .i64 5)) (hca : cur[xa]? = some (.slice (some ⟨g3, 0, none⟩) 1 c3)) (u0 : W.cell? ⟨g3, 0, none⟩ = some (.slice (some ⟨gl3, 0, none⟩) l3.length cl3)) (u1 : W.cell? ⟨g3, 1, none⟩ = some (.int .i64 1)) (hg3 : g3 < W.heap.size) (hg3c : g3 ≠ bc) (hL3 : LeafB W gl3 l3) (hl3 : l3.length ≤ 100)
    (ht1 : pkBoth [(xa : Int)] [(xb : Int)] = t1.map Int.ofNat) (hn1 : t1.length = nt1) (hp1 : 0 < nt1) (h41 : nt1 ≤ 4) (hd1 : ∀ o, o < nt1 → t1.getD o 0 < n ∧ t1.getD o 0 ≠ k ∧ ((cur[t1.getD o 0]? = some (.slice none 0 0) ∧ dl.getD o 0 = 0) ∨ (cur[t1.getD o 0]? = some (.slice (some ⟨g3, 0, none⟩) 1 c3) ∧ dl.getD o 0 = 1))) (hdl : ∀ o, dl.getD o 0 ≤ 1000) (hmx : pkMx dl nt1 = 1)
    (ht : pkBoth (l3.map Int.ofNat) [(xb : Int)] = t.map Int.ofNat) (hnt : t.length = nt) (hpt : 0 < nt) (h4t : nt ≤ 4) (hne : nt1 ≠ nt) (hdt : ∀ o, o < nt → t.getD o 0 < n ∧ t.getD o 0 ≠ k ∧ cur[t.getD o 0]? = some (.slice none 0 0)) :
    Calls Try.prog 24 #[.pointer (some ⟨bp, 0, none⟩), .int .i64 (k : Int)] W fun e w' =>
      ∃ g c gt ct, e = .returned (.tuple #[]) ∧ w'.heap[bc]? = some (.cells (cur.setIfInBounds k (.slice (some ⟨g, 0, none⟩) 2 c)) 81 (0, 0)) ∧ w'.cell? ⟨g, 0, none⟩ = some (.slice (some ⟨gt, 0, none⟩) nt ct) ∧ w'.cell? ⟨g, 1, none⟩ = some (.int .i64 1) ∧ LeafB w' gt t ∧ W.heap.size ≤ g ∧ g < w'.heap.size ∧ W.heap.size ≤ gt ∧ W.grownBy w' (some bc) := by
  have d0 := hN.d0
  have d1 := hN.d1
  have d2 := hN.d2
  have d3 := hN.d3
  have z0 := hM.x0
  have z1 := hM.x1
  have hl0 := hM.l0
  have hl2 := hM.l2
  have hbcl := boxLt hbc
  have hkI : (k : Int) < (n : Int) := by omega
  have hk0 : (0 : Int) ≤ (k : Int) := by omega
  have hw0 : IntKind.i64.wrap 0 = 0 := by decide
  have HW := hid (show ∀ W1, (W.alloc (.cells #[.int .i64 6, .int .i64 (xa : Int), .int .i64 (xb : Int), .int .i64 nx] 48)).alloc (.cells #[.slice none 0 0] 24) = W1 → Below W.heap.size W W1 ∧ W1.cell? ⟨W.heap.size, 0, none⟩ = some (.int .i64 6) ∧ W1.cell? ⟨W.heap.size, 1, none⟩ = some (.int .i64 (xa : Int)) ∧ W1.cell? ⟨W.heap.size, 2, none⟩ = some (.int .i64 (xb : Int)) ∧ W.heap.size < W1.heap.size from by
    rintro W1 rfl
    have hb := alloc_at W (.cells #[.int .i64 6, .int .i64 (xa : Int), .int .i64 (xb : Int), .int .i64 nx] 48)
    have h2 : ((W.alloc (.cells #[.int .i64 6, .int .i64 (xa : Int), .int .i64 (xb : Int), .int .i64 nx] 48)).alloc (.cells #[.slice none 0 0] 24)).heap[W.heap.size]? = some (.cells #[.int .i64 6, .int .i64 (xa : Int), .int .i64 (xb : Int), .int .i64 nx] 48 (0, 0)) := (Below.heap_alloc _ _ _ (by simp)).trans hb
    exact ⟨((Below.refl _ _).alloc (Nat.le_refl _) _).alloc (by simp) _, (cell_block h2 0).trans rfl, (cell_block h2 1).trans rfl, (cell_block h2 2).trans rfl, by simp; omega⟩)
  have HHM := hid hM
  have HHOPA := hid hopa
  have HHOPB := hid hopb
  have HX1 := hid x1
  have HHBC := hid hbc
  have HHCK := hid hck
  have HHCA := hid hca
  have HHCB := hid hcb
  have HHT := hid ht
  have HHNT := hid hnt
  have HHDT := hid hdt
  have HU0 := hid u0
  have HU1 := hid u1
  have HHL3 := hid hL3
  have HHT1 := hid ht1
  have HHN1 := hid hn1
  have HHD1 := hid hd1
  have HHDL := hid hdl
  have HHMX := hid hmx
  clear hN hM hopa hopb x1 hbc hck hca hcb ht hnt hdt u0 u1 hL3 ht1 hn1 hd1 hdl hmx
  go_enter Try.func24, Try.ntmps24
  go_upto_region 3 with fail
  obtain ⟨W1, hW1⟩ : ∃ W1, (W.alloc (.cells #[.int .i64 6, .int .i64 (xa : Int), .int .i64 (xb : Int), .int .i64 nx] 48)).alloc (.cells #[.slice none 0 0] 24) = W1 := ⟨_, rfl⟩
  obtain ⟨hb1, e0, e1, e2, hlt1⟩ := HW.out W1 hW1
  rw [hW1]
  have HB1 := hid hb1
  have HE1 := hid e1
  clear hW1 HW hb1 d0 d1 d2 d3 z0 z1
  go_upto_region 4 with (go_at_call 29; (with_reducible refine (PkWays0 bp bN bl n cn bc ncc W1 xb 3 (HHM.out.stay HB1.out) hxb ((HB1.out.cell (p := ⟨bl, xb * 4, none⟩) hl2).trans HHOPB.out) (by decide) (by decide) ((HB1.out.cell (p := ⟨bp, 1, none⟩) hl0).trans HX1.out) ((HB1.out.cell (p := ⟨bc, xb, none⟩) hbcl).trans ((cell_block HHBC.out xb).trans HHCB.out)) (Nat.lt_of_lt_of_le hbcl HB1.out.size)).mono ?_); rintro e w2 ⟨r2, q2, rfl, hr2, hq2, hq2l, hr2l, hb2⟩; have HR2 := hid hr2; have HQ2 := hid hq2; have HB2 := hid (HB1.out.trans (hb2.mono HB1.out.size)); have e12 := (hb2.cell (p := ⟨W.heap.size, 1, none⟩) hlt1).trans HE1.out; have hs12 := hb2.size; clear hr2 hq2 hb2)
  clear e0 e1 e2
  go_wp2_with (go_at_call 29; (with_reducible refine (PkWays1 bp bN bl n cn bc ncc w2 xa g3 gl3 l3.length cl3 c3 5 1 (HHM.out.stay HB2.out) hxa ((HB2.out.cell (p := ⟨bl, xa * 4, none⟩) hl2).trans HHOPA.out) (by decide) (by decide) ((HB2.out.cell (p := ⟨bp, 1, none⟩) hl0).trans HX1.out) ((HB2.out.cell (p := ⟨bc, xa, none⟩) hbcl).trans ((cell_block HHBC.out xa).trans HHCA.out)) (Nat.lt_of_lt_of_le hbcl HB2.out.size) (Nat.lt_of_lt_of_le hg3 HB2.out.size) ((HB2.out.cell (p := ⟨g3, 0, none⟩) hg3).trans HU0.out) ((HB2.out.cell (p := ⟨g3, 1, none⟩) hg3).trans HU1.out)).mono ?_); rintro e WA ⟨r1, q1, cr1, csr, rfl, hr1, hcs0, hcs1, hq1, hq1l, hr1l, hb3⟩; have HR1 := hid hr1; have HCS0 := hid hcs0; have HCS1 := hid hcs1; have HQ1 := hid hq1; have HB3 := hid (HB2.out.trans (hb3.mono HB2.out.size)); have HR2A := hid ((hb3.block r2 (boxLt HR2.out)).trans HR2.out); have HQ2A := hid ((hb3.block q2 (boxLt HQ2.out)).trans HQ2.out); clear hr1 hq1 hb3 hcs0 hcs1)
  clear e12
  have HSTA : Hid (LookSt WA WA bc k cur WA.heap.size 0 0 none []) := by
    have h1 := (HB3.out.block bc hbcl).trans HHBC.out
    refine ⟨?_, World.ownsRow_nil _ _ _ _, rfl, rfl, rfl, Nat.le_refl _, fun _ _ _ => rfl⟩
    rw [h1]
    congr 2
    apply Array.ext_getElem?
    intro j
    by_cases hj : j = k
    · subst hj
      rw [Array.getElem?_setIfInBounds_self, HHCK.out]
      have := (Array.getElem?_eq_some_iff.1 HHCK.out).1
      simp [this]
    · rw [Array.getElem?_setIfInBounds_ne (fun e => hj e.symm)]
  have hbpA : bp < WA.heap.size := Nat.lt_of_lt_of_le hl0 HB3.out.size
  have hX1A := hid ((HB3.out.cell (p := ⟨bp, 1, none⟩) hl0).trans HX1.out)
  have hr1A := boxLt HR1.out
  have hr2A := boxLt HR2A.out
  have hbcA : bc < WA.heap.size := Nat.lt_of_lt_of_le hbcl HB3.out.size
  have HBCA := hid ((HB3.out.block bc hbcl).trans HHBC.out)
  have hne1 : r1 ≠ bc := fun e => by have h := HR1.out; rw [e, HBCA.out] at h; cases h
  have hne2 : r2 ≠ bc := fun e => by have h := HR2A.out; rw [e, HBCA.out] at h; cases h
  have hneq1 : q1 ≠ bc := fun e => by have h := HQ1.out; rw [e, HBCA.out] at h; cases h
  have hneq2 : q2 ≠ bc := fun e => by have h := HQ2A.out; rw [e, HBCA.out] at h; cases h
  have hq1A := boxLt HQ1.out
  have hq2A := boxLt HQ2A.out
  have hL3A := HHL3.out.keep (HB3.out.block gl3 HHL3.out.lt)
  have HL3A := hid hL3A
  have hne3 : gl3 ≠ bc := fun e => by obtain ⟨⟨cs, h⟩, _⟩ := HL3A.out; rw [e, HBCA.out] at h; cases h
  have hl3A := hL3A.lt
  have hg3A : g3 < WA.heap.size := Nat.lt_of_lt_of_le hg3 HB3.out.size
  have U1A := hid ((HB3.out.cell (p := ⟨g3, 1, none⟩) hg3).trans HU1.out)
  clear hL3A
  go_loopw [35] (fun v wr => ∃ i : Nat, v = .int .i64 (i : Int) ∧ ((i = 0 ∧ LookSt WA wr bc k cur WA.heap.size 0 0 none []) ∨ (i = 1 ∧ ∃ a c gt1 ct1, LookSt WA wr bc k cur WA.heap.size 1 c a ([] ++ cutCells gt1 nt1 ct1 ((1 + 1 : Nat) : Int)) ∧ gt1 < wr.heap.size) ∨ (i = 2 ∧ ∃ a c gt1 ct1 gt ct, LookSt WA wr bc k cur WA.heap.size 2 c a ([] ++ cutCells gt1 nt1 ct1 ((1 + 1 : Nat) : Int) ++ cutCells gt nt ct ((0 + 1 : Nat) : Int)) ∧ LeafB wr gt t ∧ WA.heap.size ≤ gt))) (fun v _ => 2 - (intOf v).toNat)
  case atStart => exact ⟨0, rfl, .inl ⟨rfl, HSTA.out⟩⟩
  case round =>
    obtain ⟨i, rfl, hcase⟩ := hrel
    rcases hcase with ⟨rfl, hst⟩ | ⟨rfl, a, c, gt1, ct1, hst, hgt1⟩ | ⟨rfl, a, c, gt1, ct1, gt, ct, hst, hleaf, hgtl⟩
    · rw [show ((0 : Nat) : Int) = 0 from rfl]
      obtain ⟨wo, rfl⟩ : ∃ wo : World, wo = wr := ⟨_, rfl⟩
      have HST := hid hst
      have c1 := hst.cell ((cell_block HR1.out 0).trans HCS0.out) hr1A hne1
      have c2 := hst.cell ((cell_block HR2A.out 0).trans rfl) hr2A hne2
      have HLM := hid ((LeafB.one HQ1.out).keep (hst.far q1 hq1A hneq1))
      have HLN := hid ((LeafB.one HQ2A.out).keep (hst.far q2 hq2A hneq2))
      have hszr := hst.size
      have HDX0 := hid (show ∀ o, o < nt1 → t1.getD o 0 < n ∧ t1.getD o 0 ≠ k ∧ ((cur[t1.getD o 0]? = some (.slice none 0 0) ∧ dl.getD o 0 = 0) ∨ (cur[t1.getD o 0]? = some (.slice (some ⟨g3, 0, none⟩) 1 c3) ∧ dl.getD o 0 = 1 ∧ WA.cell? ⟨g3, 1, none⟩ = some (.int .i64 1))) from fun o ho => ⟨(HHD1.out o ho).1, (HHD1.out o ho).2.1, (HHD1.out o ho).2.2.imp id (fun h => ⟨h.1, h.2, U1A.out⟩)⟩)
      clear hst
      go_wp2_with fail
      clear c1
      go_loopw [41] (fun v wz => ∃ j : Nat, v = .int .i64 (j : Int) ∧ ((j = 0 ∧ wz = wo) ∨ (j = 1 ∧ ∃ a' c' gt ct, LookSt WA wz bc k cur WA.heap.size (0 + 1) c' a' ([] ++ cutCells gt nt1 ct ((1 + 1 : Nat) : Int)) ∧ LeafB wz gt t1 ∧ WA.heap.size ≤ gt))) (fun v _ => 1 - (intOf v).toNat)
      case atStart => exact ⟨0, rfl, .inl ⟨rfl, rfl⟩⟩
      case round =>
        obtain ⟨j, rfl, hcj⟩ := hrel
        rcases hcj with ⟨rfl, hwz⟩ | ⟨rfl, a', c', gt', ct', hst', hleaf', hgtl'⟩
        · subst wr
          rw [show ((0 : Nat) : Int) = 0 from rfl]
          go_wp2_with (first
            | (go_at_call 30; (with_reducible refine (PkTog (some ⟨q1, 0, none⟩) (some ⟨q2, 0, none⟩) 1 1 1 1 [(xa : Int)] [(xb : Int)] wo rfl rfl (HLM.out.cells' rfl rfl) (HLN.out.cells' rfl rfl) (by intro h; cases h) (by intro h; cases h) (by omega) (by omega) nt1 _ HHT1.out (by rw [List.length_map]; exact HHN1.out) h41).mono ?_); rintro e w4 ⟨v, rfl, hv, hb4⟩; obtain ⟨gt9, ct9, rfl, hgt9, hlf9⟩ := LeafB.of_row hv hp1; have HLF := hid hlf9; have HB4 := hid hb4; have hszb := hb4.size; have HGT9 := hid hgt9; clear hv hb4 hlf9 hgt9)
            | (go_at_call 31; (with_reducible refine (PkAddTo bp bc n ncc WA.heap.size w4 k gt9 nt1 ct9 0 0 none t1 dl [] (cur.setIfInBounds k (.slice none 0 0)) hkn hbpA (by omega) ((HB4.out.cell (p := ⟨bp, 1, none⟩) (Nat.lt_of_lt_of_le hbpA hszr)).trans (HST.out.cell hX1A.out hbpA hbpc)) ((HB4.out.block bc (Nat.lt_of_lt_of_le hbcA hszr)).trans HST.out.row) (lookGet HHCK.out) (rowOld HST.out.own HB4.out) (by omega) HLF.out.all HHN1.out HLF.out.lt HHDL.out (by omega)
                (HST.out.best bp n bc ncc HB4.out hX1A.out hbpA hbpc hbcA g3 c3 nt1 t1 dl hg3A hg3c HDX0.out)
                (fun W' bx hb' hx hl => PkHas0 none 0 bx W')).mono ?_); rintro e w5 ⟨av, cv, rfl, h51, h52, h53⟩; rw [HHMX.out] at h52; have HST5 := hid (HST.out.next (Nat.le_refl _) HB4.out h51 h52 h53); have HLF5 := hid (HST.out.leaf bc HB4.out hbcA HLF.out h53.2.2.2.2); clear h51 h52 h53))
          go_roundw
          case rel => exact ⟨1, by go_num, .inr ⟨rfl, av, cv, gt9, ct9, HST5.out, HLF5.out, Nat.le_trans hszr HGT9.out⟩⟩
          case measure => simp [intOf]
        · rw [show ((1 : Nat) : Int) = 1 from rfl]
          have HST9 := hid hst'
          have HLF9 := hid hleaf'
          clear hst' hleaf'
          go_wp2_with fail
          go_roundw
          case rel => exact ⟨0 + 1, by go_num, .inr (.inl ⟨rfl, a', c', gt', ct', HST9.out, HLF9.out.lt⟩)⟩
          case measure => simp [intOf]
    · rw [show ((1 : Nat) : Int) = 1 from rfl]
      obtain ⟨wo, rfl⟩ : ∃ wo : World, wo = wr := ⟨_, rfl⟩
      have HST := hid hst
      have c1 := hst.cell ((cell_block HR1.out 1).trans HCS1.out) hr1A hne1
      have c2 := hst.cell ((cell_block HR2A.out 0).trans rfl) hr2A hne2
      have HLM := hid (HL3A.out.keep (hst.far gl3 hl3A hne3))
      have HLN := hid ((LeafB.one HQ2A.out).keep (hst.far q2 hq2A hneq2))
      have hszr := hst.size
      obtain ⟨gc, e9, hgcl, hk0', hk1'⟩ := lookFirst hst.own
      subst e9
      have HDX0 := hid (show ∀ o, o < nt → t.getD o 0 < n ∧ t.getD o 0 ≠ k ∧ ((cur[t.getD o 0]? = some (.slice none 0 0) ∧ ([] : List Nat).getD o 0 = 0) ∨ (cur[t.getD o 0]? = some (.slice (some ⟨g3, 0, none⟩) 1 c3) ∧ ([] : List Nat).getD o 0 = 1 ∧ WA.cell? ⟨g3, 1, none⟩ = some (.int .i64 1))) from fun o ho => ⟨(HHDT.out o ho).1, (HHDT.out o ho).2.1, .inl ⟨(HHDT.out o ho).2.2, by simp⟩⟩)
      clear hst
      go_wp2_with fail
      clear c1
      go_loopw [41] (fun v wz => ∃ j : Nat, v = .int .i64 (j : Int) ∧ ((j = 0 ∧ wz = wo) ∨ (j = 1 ∧ ∃ a' c' gt ct, LookSt WA wz bc k cur WA.heap.size (1 + 1) c' a' (([] ++ cutCells gt1 nt1 ct1 ((1 + 1 : Nat) : Int)) ++ cutCells gt nt ct ((0 + 1 : Nat) : Int)) ∧ LeafB wz gt t ∧ WA.heap.size ≤ gt))) (fun v _ => 1 - (intOf v).toNat)
      case atStart => exact ⟨0, rfl, .inl ⟨rfl, rfl⟩⟩
      case round =>
        obtain ⟨j, rfl, hcj⟩ := hrel
        rcases hcj with ⟨rfl, hwz⟩ | ⟨rfl, a', c', gt', ct', hst', hleaf', hgtl'⟩
        · subst wr
          rw [show ((0 : Nat) : Int) = 0 from rfl]
          go_wp2_with (first
            | (go_at_call 30; (with_reducible refine (PkTog (some ⟨gl3, 0, none⟩) (some ⟨q2, 0, none⟩) l3.length 1 cl3 1 (l3.map Int.ofNat) [(xb : Int)] wo (by rw [List.length_map]) rfl (HLM.out.cells' rfl rfl) (HLN.out.cells' rfl rfl) (by intro h; cases h) (by intro h; cases h) (by omega) (by omega) nt _ HHT.out (by rw [List.length_map]; exact HHNT.out) h4t).mono ?_); rintro e w4 ⟨v, rfl, hv, hb4⟩; obtain ⟨gt9, ct9, rfl, hgt9, hlf9⟩ := LeafB.of_row hv hpt; have HLF := hid hlf9; have HB4 := hid hb4; have hszb := hb4.size; have HGT9 := hid hgt9; clear hv hb4 hlf9 hgt9)
            | (go_at_call 31; (with_reducible refine (PkAddTo bp bc n ncc WA.heap.size w4 k gt9 nt ct9 1 c (some ⟨gc, 0, none⟩) t [] ([] ++ cutCells gt1 nt1 ct1 ((1 + 1 : Nat) : Int)) (cur.setIfInBounds k (.slice (some ⟨gc, 0, none⟩) 1 c)) hkn hbpA (by omega) ((HB4.out.cell (p := ⟨bp, 1, none⟩) (Nat.lt_of_lt_of_le hbpA hszr)).trans (HST.out.cell hX1A.out hbpA hbpc)) ((HB4.out.block bc (Nat.lt_of_lt_of_le hbcA hszr)).trans HST.out.row) (lookGet HHCK.out) (rowOld HST.out.own HB4.out) (by omega) HLF.out.all HHNT.out HLF.out.lt (fun o => by simp) (by omega)
                (HST.out.best bp n bc ncc HB4.out hX1A.out hbpA hbpc hbcA g3 c3 nt t [] hg3A hg3c HDX0.out)
                (fun W' bx hb' hx hl => PkHas (some ⟨gt9, 0, none⟩) nt ct9 bx gc 1 c nt1 ct1 (some ⟨gt1, 0, none⟩) _ W' rfl hne hx hl (((HB4.out.trans (hb'.mono HB4.out.size)).cell (p := ⟨gc, 0, none⟩) hgcl).trans hk0') (((HB4.out.trans (hb'.mono HB4.out.size)).cell (p := ⟨gc, 1, none⟩) hgcl).trans hk1') (Nat.lt_of_lt_of_le hgcl (HB4.out.trans (hb'.mono HB4.out.size)).size))).mono ?_); rintro e w5 ⟨av, cv, rfl, h51, h52, h53⟩; rw [pkMx_nil] at h52; have HST5 := hid (HST.out.next (Nat.le_refl _) HB4.out h51 h52 h53); have HLF5 := hid (HST.out.leaf bc HB4.out hbcA HLF.out h53.2.2.2.2); clear h51 h52 h53))
          go_roundw
          case rel => exact ⟨1, by go_num, .inr ⟨rfl, av, cv, gt9, ct9, HST5.out, HLF5.out, Nat.le_trans hszr HGT9.out⟩⟩
          case measure => simp [intOf]
        · rw [show ((1 : Nat) : Int) = 1 from rfl]
          have HST9 := hid hst'
          have HLF9 := hid hleaf'
          clear hst' hleaf'
          go_wp2_with fail
          go_roundw
          case rel => exact ⟨1 + 1, by go_num, .inr (.inr ⟨rfl, a', c', gt1, ct1, gt', ct', HST9.out, HLF9.out, hgtl'⟩)⟩
          case measure => simp [intOf]
    · rw [show ((2 : Nat) : Int) = 2 from rfl]
      have hszr := hst.size
      obtain ⟨gc, e9, hgc, hgch, hnc, htk⟩ : ∃ gc, a = some ⟨gc, 0, none⟩ ∧ WA.heap.size ≤ gc ∧ (∃ cs, wr.heap[gc]? = some (.cells cs 83 (0, 0))) ∧ 2 ≤ c ∧ ∀ (j : Nat) (u : Value), (([] ++ cutCells gt1 nt1 ct1 ((1 + 1 : Nat) : Int) ++ cutCells gt nt ct ((0 + 1 : Nat) : Int)) : List Value)[j]? = some u → wr.cell? ⟨gc, j, none⟩ = some u := by
        rcases hst.own.2 with ⟨_, h0⟩ | ⟨gc, cap, cur2, e, hgc, hgh, hnc, _, _, htk⟩
        · omega
        · cases e
          refine ⟨gc, rfl, hgc, ⟨cur2, hgh⟩, hnc, fun j u hj => ?_⟩
          rw [cell_block hgh j]
          have h2 : (cur2.toList.take (2 * 2))[j]? = some u := by rw [htk]; exact hj
          have hj2 : j < 4 := by have := (List.getElem?_eq_some_iff.1 hj).1; simpa [cutCells] using this
          rw [List.getElem?_take_of_lt (by omega), Array.getElem?_toList] at h2
          exact h2
      subst e9
      have k0 := htk 0 _ rfl
      have k1 := htk 1 _ rfl
      have k2 := htk 2 _ rfl
      have k3 := htk 3 _ rfl
      obtain ⟨csg, hcsg⟩ := hgch
      have hgcl := boxLt hcsg
      have b1 := hst.cell hX1A.out hbpA hbpc
      have b2 : wr.cell? ⟨bc, k, none⟩ = some (.slice (some ⟨gc, 0, none⟩) 2 c) := (cell_block hst.row k).trans (lookGet HHCK.out)
      have HOS := hid (⟨hst.os, hst.tape, hst.output, hst.size, hst.far⟩ : wr.os = WA.os ∧ wr.tape = WA.tape ∧ wr.output = WA.output ∧ WA.heap.size ≤ wr.heap.size ∧ ∀ z, z < WA.heap.size → z ≠ bc → wr.heap[z]? = WA.heap[z]?)
      have HROW := hid hst.row
      have HLF := hid hleaf
      have HCSG := hid hcsg
      have K0 := hid k0
      have K1 := hid k1
      have hncI : (2 : Int) ≤ (c : Int) := by omega
      have hmin : min (6 : Int) 2 = 2 := by decide
      have HPAIR := hid (⟨k0, k1, k2, k3⟩ : Pair wr gc (.slice (some ⟨gt1, 0, none⟩) nt1 ct1) (.slice (some ⟨gt, 0, none⟩) nt ct) 2 1)
      clear hst hleaf htk k0 k1 k2 k3 hcsg
      go_upto_region 16 with (go_at_call 32; (with_reducible refine (PkStable2 gc c nt1 nt ct1 ct (some ⟨gt1, 0, none⟩) (some ⟨gt, 0, none⟩) csg wr HCSG.out HPAIR.out).mono ?_); rintro e w6 ⟨rfl, hp6, hg6⟩; have HP6 := hid hp6; have HG6 := hid hg6; clear hp6 hg6)
      have hgcbc : gc ≠ bc := by omega
      have hgt6 : gt ≠ gc := fun e => by obtain ⟨⟨cs9, hcs9⟩, _⟩ := HLF.out; rw [e, HCSG.out] at hcs9; cases hcs9
      have HROW6 := hid ((HG6.out.block bc (by omega) (fun e => hgcbc (Option.some.inj e).symm)).trans HROW.out)
      have HLF6 := hid (HLF.out.keep (HG6.out.block gt HLF.out.lt (fun e => hgt6 (Option.some.inj e))))
      have hb6 : ∀ z j, z < WA.heap.size → w6.cell? ⟨z, j, none⟩ = wr.cell? ⟨z, j, none⟩ := fun z j hz => by
        unfold World.cell?
        simp only
        rw [HG6.out.block z (by omega) (fun e => by have := Option.some.inj e; omega)]
      have d1 := (hb6 bp 1 hbpA).trans b1
      have d2 := (hb6 bc k hbcA).trans b2
      have HOS6 := hid (⟨HG6.out.os.trans HOS.out.1, HG6.out.tape.trans HOS.out.2.1, HG6.out.output.trans HOS.out.2.2.1, Nat.le_trans HOS.out.2.2.2.1 HG6.out.size, fun z hz hne => (HG6.out.block z (by omega) (fun e => by have := Option.some.inj e; omega)).trans (HOS.out.2.2.2.2 z hz hne)⟩ : w6.os = WA.os ∧ w6.tape = WA.tape ∧ w6.output = WA.output ∧ WA.heap.size ≤ w6.heap.size ∧ ∀ z, z < WA.heap.size → z ≠ bc → w6.heap[z]? = WA.heap[z]?)
      have hfr := free_block HROW6.out
      have hbcl9 := boxLt HROW6.out
      clear hb6 b1 b2
      refine wpEnds.begin (fun w' => w'.cell? ⟨bp, 1, none⟩ = some (.slice (some ⟨bc, 0, none⟩) n ncc) ∧ w'.cell? ⟨bc, k, none⟩ = some (.slice (some ⟨gc, 0, none⟩) 2 c)) 23 (by kernel_rfl) ⟨d1, d2⟩ (fun hHeld => ?_)
      refine wpEnds.take 0 24 (v := ?vaz0) rfl (by kernel_rfl) (by kernel_rfl) (by kernel_rfl) (by kernel_rfl) (by kernel_rfl) (fun _ _ _ h => h) (by kernel_rfl) hHeld (fun w' hSw => ?hyaz0) ?restaz0
      case hyaz0 => ((try dsimp only at hSw); go_simp; try with_reducible rfl)
      case restaz0 =>
      (try simp only [Act.put, List.setIfInBounds_toArray, List.set_cons_zero, List.set_cons_succ])
      refine wpEnds.take 1 24 (v := ?vaz1) rfl (by kernel_rfl) (by kernel_rfl) (by kernel_rfl) (by kernel_rfl) (by kernel_rfl) (fun _ _ _ h => h) (by kernel_rfl) hHeld (fun w' hSw => ?hyaz1) ?restaz1
      case hyaz1 => ((try dsimp only at hSw); go_simp; try with_reducible rfl)
      case restaz1 =>
      (try simp only [Act.put, List.setIfInBounds_toArray, List.set_cons_zero, List.set_cons_succ])
      refine wpEnds.take 2 24 (v := ?vaz2) rfl (by kernel_rfl) (by kernel_rfl) (by kernel_rfl) (by kernel_rfl) (by kernel_rfl) (fun _ _ _ h => h) (by kernel_rfl) hHeld (fun w' hSw => ?hyaz2) ?restaz2
      case hyaz2 => ((try dsimp only at hSw); go_simp; try with_reducible rfl)
      case restaz2 =>
      (try simp only [Act.put, List.setIfInBounds_toArray, List.set_cons_zero, List.set_cons_succ])
      refine wpEnds.take 3 24 (v := ?vaz3) rfl (by kernel_rfl) (by kernel_rfl) (by kernel_rfl) (by kernel_rfl) (by kernel_rfl) (fun _ _ _ h => h) (by kernel_rfl) hHeld (fun w' hSw => ?hyaz3) ?restaz3
      case hyaz3 => ((try dsimp only at hSw); go_simp; try with_reducible rfl)
      case restaz3 =>
      (try simp only [Act.put, List.setIfInBounds_toArray, List.set_cons_zero, List.set_cons_succ])
      refine wpEnds.take 4 24 (v := ?vaz4) rfl (by kernel_rfl) (by kernel_rfl) (by kernel_rfl) (by kernel_rfl) (by kernel_rfl) (fun _ _ _ h => h) (by kernel_rfl) hHeld (fun w' hSw => ?hyaz4) ?restaz4
      case hyaz4 => ((try dsimp only at hSw); go_simp; try with_reducible rfl)
      case restaz4 =>
      (try simp only [Act.put, List.setIfInBounds_toArray, List.set_cons_zero, List.set_cons_succ])
      refine wpEnds.take 5 24 (v := ?vaz5) rfl (by kernel_rfl) (by kernel_rfl) (by kernel_rfl) (by kernel_rfl) (by kernel_rfl) (fun _ _ _ h => h) (by kernel_rfl) hHeld (fun w' hSw => ?hyaz5) ?restaz5
      case hyaz5 => ((try dsimp only at hSw); go_simp; try with_reducible rfl)
      case restaz5 =>
      (try simp only [Act.put, List.setIfInBounds_toArray, List.set_cons_zero, List.set_cons_succ])
      refine wpEnds.take 6 24 (v := ?vaz6) rfl (by kernel_rfl) (by kernel_rfl) (by kernel_rfl) (by kernel_rfl) (by kernel_rfl) (fun _ _ _ h => h) (by kernel_rfl) hHeld (fun w' hSw => ?hyaz6) ?restaz6
      case hyaz6 => ((try dsimp only at hSw); go_simp; try with_reducible rfl)
      case restaz6 =>
      (try simp only [Act.put, List.setIfInBounds_toArray, List.set_cons_zero, List.set_cons_succ])
      refine wpEnds.take 7 24 (v := ?vaz7) rfl (by kernel_rfl) (by kernel_rfl) (by kernel_rfl) (by kernel_rfl) (by kernel_rfl) (fun _ _ _ h => h) (by kernel_rfl) hHeld (fun w' hSw => ?hyaz7) ?restaz7
      case hyaz7 => ((try dsimp only at hSw); go_simp; try with_reducible rfl)
      case restaz7 =>
      (try simp only [Act.put, List.setIfInBounds_toArray, List.set_cons_zero, List.set_cons_succ])
      refine wpEnds.take 8 24 (v := ?vaz8) rfl (by kernel_rfl) (by kernel_rfl) (by kernel_rfl) (by kernel_rfl) (by kernel_rfl) (fun _ _ _ h => h) (by kernel_rfl) hHeld (fun w' hSw => ?hyaz8) ?restaz8
      case hyaz8 => ((try dsimp only at hSw); go_simp; try with_reducible rfl)
      case restaz8 =>
      (try simp only [Act.put, List.setIfInBounds_toArray, List.set_cons_zero, List.set_cons_succ])
      refine wpEnds.take 9 24 (v := ?vaz9) rfl (by kernel_rfl) (by kernel_rfl) (by kernel_rfl) (by kernel_rfl) (by kernel_rfl) (fun _ _ _ h => h) (by kernel_rfl) hHeld (fun w' hSw => ?hyaz9) ?restaz9
      case hyaz9 => ((try dsimp only at hSw); go_simp; try with_reducible rfl)
      case restaz9 =>
      (try simp only [Act.put, List.setIfInBounds_toArray, List.set_cons_zero, List.set_cons_succ])
      refine wpEnds.take 10 24 (v := ?vaz10) rfl (by kernel_rfl) (by kernel_rfl) (by kernel_rfl) (by kernel_rfl) (by kernel_rfl) (fun _ _ _ h => h) (by kernel_rfl) hHeld (fun w' hSw => ?hyaz10) ?restaz10
      case hyaz10 => ((try dsimp only at hSw); go_simp; try with_reducible rfl)
      case restaz10 =>
      (try simp only [Act.put, List.setIfInBounds_toArray, List.set_cons_zero, List.set_cons_succ])
      refine wpEnds.take 11 24 (v := ?vaz11) rfl (by kernel_rfl) (by kernel_rfl) (by kernel_rfl) (by kernel_rfl) (by kernel_rfl) (fun _ _ _ h => h) (by kernel_rfl) hHeld (fun w' hSw => ?hyaz11) ?restaz11
      case hyaz11 => ((try dsimp only at hSw); go_simp; try with_reducible rfl)
      case restaz11 =>
      (try simp only [Act.put, List.setIfInBounds_toArray, List.set_cons_zero, List.set_cons_succ])
      refine wpEnds.take 12 24 (v := ?vaz12) rfl (by kernel_rfl) (by kernel_rfl) (by kernel_rfl) (by kernel_rfl) (by kernel_rfl) (fun _ _ _ h => h) (by kernel_rfl) hHeld (fun w' hSw => ?hyaz12) ?restaz12
      case hyaz12 => ((try dsimp only at hSw); go_simp; try with_reducible rfl)
      case restaz12 =>
      (try simp only [Act.put, List.setIfInBounds_toArray, List.set_cons_zero, List.set_cons_succ])
      refine wpEnds.take 13 24 (v := ?vaz13) rfl (by kernel_rfl) (by kernel_rfl) (by kernel_rfl) (by kernel_rfl) (by kernel_rfl) (fun _ _ _ h => h) (by kernel_rfl) hHeld (fun w' hSw => ?hyaz13) ?restaz13
      case hyaz13 => ((try dsimp only at hSw); go_simp; try with_reducible rfl)
      case restaz13 =>
      (try simp only [Act.put, List.setIfInBounds_toArray, List.set_cons_zero, List.set_cons_succ])
      refine wpEnds.take 14 24 (v := ?vaz14) rfl (by kernel_rfl) (by kernel_rfl) (by kernel_rfl) (by kernel_rfl) (by kernel_rfl) (fun _ _ _ h => h) (by kernel_rfl) hHeld (fun w' hSw => ?hyaz14) ?restaz14
      case hyaz14 => ((try dsimp only at hSw); go_simp; try with_reducible rfl)
      case restaz14 =>
      (try simp only [Act.put, List.setIfInBounds_toArray, List.set_cons_zero, List.set_cons_succ])
      refine wpEnds.take 15 24 (v := ?vaz15) rfl (by kernel_rfl) (by kernel_rfl) (by kernel_rfl) (by kernel_rfl) (by kernel_rfl) (fun _ _ _ h => h) (by kernel_rfl) hHeld (fun w' hSw => ?hyaz15) ?restaz15
      case hyaz15 => ((try dsimp only at hSw); go_simp; try with_reducible rfl)
      case restaz15 =>
      (try simp only [Act.put, List.setIfInBounds_toArray, List.set_cons_zero, List.set_cons_succ])
      refine wpEnds.take 16 24 (v := ?vaz16) rfl (by kernel_rfl) (by kernel_rfl) (by kernel_rfl) (by kernel_rfl) (by kernel_rfl) (fun _ _ _ h => h) (by kernel_rfl) hHeld (fun w' hSw => ?hyaz16) ?restaz16
      case hyaz16 => ((try dsimp only at hSw); go_simp; try with_reducible rfl)
      case restaz16 =>
      (try simp only [Act.put, List.setIfInBounds_toArray, List.set_cons_zero, List.set_cons_succ])
      refine wpEnds.take 17 24 (v := ?vaz17) rfl (by kernel_rfl) (by kernel_rfl) (by kernel_rfl) (by kernel_rfl) (by kernel_rfl) (fun _ _ _ h => h) (by kernel_rfl) hHeld (fun w' hSw => ?hyaz17) ?restaz17
      case hyaz17 => ((try dsimp only at hSw); go_simp; try with_reducible rfl)
      case restaz17 =>
      (try simp only [Act.put, List.setIfInBounds_toArray, List.set_cons_zero, List.set_cons_succ])
      refine wpEnds.take 18 24 (v := ?vaz18) rfl (by kernel_rfl) (by kernel_rfl) (by kernel_rfl) (by kernel_rfl) (by kernel_rfl) (fun _ _ _ h => h) (by kernel_rfl) hHeld (fun w' hSw => ?hyaz18) ?restaz18
      case hyaz18 => ((try dsimp only at hSw); go_simp; try with_reducible rfl)
      case restaz18 =>
      (try simp only [Act.put, List.setIfInBounds_toArray, List.set_cons_zero, List.set_cons_succ])
      refine wpEnds.take 19 24 (v := ?vaz19) rfl (by kernel_rfl) (by kernel_rfl) (by kernel_rfl) (by kernel_rfl) (by kernel_rfl) (fun _ _ _ h => h) (by kernel_rfl) hHeld (fun w' hSw => ?hyaz19) ?restaz19
      case hyaz19 => ((try dsimp only at hSw); go_simp; try with_reducible rfl)
      case restaz19 =>
      (try simp only [Act.put, List.setIfInBounds_toArray, List.set_cons_zero, List.set_cons_succ])
      refine wpEnds.take 20 24 (v := ?vaz20) rfl (by kernel_rfl) (by kernel_rfl) (by kernel_rfl) (by kernel_rfl) (by kernel_rfl) (fun _ _ _ h => h) (by kernel_rfl) hHeld (fun w' hSw => ?hyaz20) ?restaz20
      case hyaz20 => ((try dsimp only at hSw); go_simp; try with_reducible rfl)
      case restaz20 =>
      (try simp only [Act.put, List.setIfInBounds_toArray, List.set_cons_zero, List.set_cons_succ])
      refine wpEnds.take 21 24 (v := ?vaz21) rfl (by kernel_rfl) (by kernel_rfl) (by kernel_rfl) (by kernel_rfl) (by kernel_rfl) (fun _ _ _ h => h) (by kernel_rfl) hHeld (fun w' hSw => ?hyaz21) ?restaz21
      case hyaz21 => ((try dsimp only at hSw); go_simp; try with_reducible rfl)
      case restaz21 =>
      (try simp only [Act.put, List.setIfInBounds_toArray, List.set_cons_zero, List.set_cons_succ])
      refine wpEnds.take 22 24 (v := ?vaz22) rfl (by kernel_rfl) (by kernel_rfl) (by kernel_rfl) (by kernel_rfl) (by kernel_rfl) (fun _ _ _ h => h) (by kernel_rfl) hHeld (fun w' hSw => ?hyaz22) ?restaz22
      case hyaz22 => ((try dsimp only at hSw); go_simp; try with_reducible rfl)
      case restaz22 =>
      (try simp only [Act.put, List.setIfInBounds_toArray, List.set_cons_zero, List.set_cons_succ])
      refine wpEnds.last 23 (by kernel_rfl) (by kernel_rfl) rfl (fun K hK => ?_)
      go_simp
      refine hK.out _ _ ?_
      clear hK K
      (try simp only [Act.put, List.setIfInBounds_toArray, List.set_cons_zero, List.set_cons_succ])
      obtain ⟨wz, hwz⟩ : ∃ wz, (w6.setCell ⟨bc, k, none⟩ (.slice (some ⟨gc, 0, none⟩) 2 c)).drew = wz := ⟨_, rfl⟩
      have HEND := hid (lookEnd HB3.out hbcA HROW6.out HOS6.out hgc (Nat.lt_of_lt_of_le hgcl HG6.out.size) HP6.out.c0 HP6.out.c1 HLF6.out hgtl hwz)
      rw [hwz]
      clear hwz
      go_wp2_with fail
      go_end0
      exact ⟨gc, c, gt, ct, rfl, HEND.out⟩
end
end Go.Proofs.Ytlaeflpddehipab

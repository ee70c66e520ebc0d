/- (*gate.Sim).Step: a cycle of a net (written by gen_step.py). -/
import Derived.Test.YtlaeflpddehipabDoorNetVals
set_option linter.unusedVariables false
namespace Go.Proofs.YtlaeflpddehipabDoor
open Go.RowKit

/-- What comes out lies in memory of its own; the registers are what they are behind the cycle; nothing else has changed. -/
def StepPost (N : Net) (regs given : List Bool) (r : Nat) (w : World) (e : Ending) (w' : World) : Prop :=
  ∃ v, e = .returned v ∧ w'.ownsRow w.heap.size 4 1 v N.outs.length ((N.outVals regs given).map .bool) ∧ Row w' r (N.regs' regs given) ∧ w.grownBy w' (some r)

/-- What Step finds in memory. -/
structure StepIn (B : Nat) (w : World) (b : Nat) (a : Option Addr) (c : Nat) (a' : Option Addr) (c' : Nat) (N : Net) (s r : Nat) (regs : List Bool) (ag : Option Addr) (given : List Bool) : Prop where
  net : NetIn B w b a c a' c' N
  right : N.right = true
  sim : SimIn w s r b regs
  len : regs.length = N.nodes.length
  bs : B ≤ s
  br : B ≤ r
  sr : s ≠ r
  bw : B ≤ w.heap.size
  gvn : Cells w.heap.size w ag given.length (fun i => .bool (given.getD i false))
  apart : ∀ bg off, ag = some ⟨bg, off, none⟩ → 0 < given.length → bg ≠ r
  glen : given.length ≤ maxLen

theorem StepIn.stay {B : Nat} {w w' : World} {b : Nat} {a : Option Addr} {c : Nat} {a' : Option Addr} {c' : Nat} {N : Net} {s r : Nat} {regs : List Bool} {ag : Option Addr} {given : List Bool}
    (h : StepIn B w b a c a' c' N s r regs ag given) (hb : Below w.heap.size w w') : StepIn B w' b a c a' c' N s r regs ag given := by
  have hs : s < w.heap.size := by
    rcases Nat.lt_or_ge s w.heap.size with h' | h'
    · exact h'
    · have := h.sim.1; simp [Array.getElem?_eq_none h'] at this
  exact ⟨h.net.stay (hb.mono h.bw), h.right, ⟨by rw [hb.block s hs]; exact h.sim.1, h.sim.2.keep (hb.block r h.sim.2.lt)⟩, h.len, h.bs, h.br, h.sr, Nat.le_trans h.bw hb.size, (h.gvn.stay hb).mono hb.size, h.apart, h.glen⟩

set_option maxRecDepth 100000 in
set_option maxHeartbeats 6400000 in
theorem Step_any (B : Nat) (b : Nat) (a : Option Addr) (c : Nat) (a' : Option Addr) (c' : Nat) (N : Net) (w : World) (s r : Nat) (regs : List Bool) (ag : Option Addr) (cg : Nat) (given : List Bool) (h : StepIn B w b a c a' c' N s r regs ag given) :
    Calls Tryd.prog 21 #[.pointer (some ⟨s, 0, none⟩), .slice ag given.length cg] w (StepPost N regs given r w) := by
  have HH := hid h
  have hn := h.net.nodes
  have hsz := N.right_sizes h.right
  have hm : N.nodes.length ≤ 20000 := by omega
  have hng := h.glen
  unfold maxLen at hng
  obtain ⟨n, hN⟩ : ∃ n, N.nodes.length = n := ⟨_, rfl⟩
  obtain ⟨ng, hNG⟩ : ∃ ng, given.length = ng := ⟨_, rfl⟩
  rw [hN] at hn hm
  rw [hNG] at hng
  rw [hNG]
  have HN := hid hN
  have HNG := hid hNG
  have s0 := cell_block h.sim.1 0
  have s1 := cell_block h.sim.1 1
  rw [h.len, hN] at s1
  simp only [List.getElem?_toArray, List.getElem?_cons_succ, List.getElem?_cons_zero] at s0 s1
  have hmk := Tryd.make_bools n (by omega)
  have hlt_b : b < w.heap.size := Nat.lt_of_lt_of_le h.net.hb h.bw
  have hlt_s : s < w.heap.size := (lt_of_cell s0).1
  have hlt_r : r < w.heap.size := h.sim.2.lt
  clear h hN hNG hsz
  go_enter Tryd.func21, Tryd.ntmps21
  go_wp2
  obtain ⟨V, hV⟩ : ∃ V, w.heap.size = V := ⟨_, rfl⟩
  have HV := hid hV
  have hrow : Row (w.alloc (Obj.cells (bools (List.replicate n false)) 4)) V (List.replicate n false) := by
    unfold Row; rw [← hV]; exact alloc_at _ _
  have hbel : Below w.heap.size w (w.alloc (Obj.cells (bools (List.replicate n false)) 4)) := (Below.refl _ _).alloc (Nat.le_refl _) _
  rw [hV] at hlt_b hlt_s hlt_r ⊢
  generalize (w.alloc (Obj.cells (bools (List.replicate n false)) 4)) = w2 at *
  clear hmk hn s0 s1 hV
  go_loopw [30] (fun v wr => ∃ k : Nat, k ≤ n ∧ v = .int .i64 k ∧ Row wr V (N.valsTo regs given k ++ List.replicate (n - k) false) ∧ Below w.heap.size w wr) (fun v _ => n - (intOf v).toNat)
  case atStart => exact ⟨0, Nat.zero_le _, rfl, by simpa [Net.valsTo] using hrow, hbel⟩
  case round =>
    obtain ⟨k, hk, rfl, hro, hbe⟩ := hrel
    clear hrow hbel
    by_cases hlt : k < n
    · have h' := HH.out.stay hbe
      obtain ⟨b1, off, rfl, hb1, c0, c1, c2, c3⟩ := h'.net.node k (by rw [HN.out]; exact hlt)
      have hlen : (N.valsTo regs given k ++ List.replicate (n - k) false).length = n := by rw [List.length_append, N.valsTo_len, List.length_replicate]; omega
      have hVlt : V < wr.heap.size := hro.lt
      have r1 := hro.cell k (by rw [hlen]; exact hlt)
      have r2 := hro.free k
      have hb1w : b1 < wr.heap.size := Nat.lt_of_lt_of_le hb1 h'.bw
      have hbw : b < wr.heap.size := by omega
      have hsw : s < wr.heap.size := by omega
      have hrw : r < wr.heap.size := by omega
      have hkI : (k : Int) < n := by omega
      have hk0 : (0 : Int) ≤ k := by omega
      have s0 := cell_block h'.sim.1 0
      have s1 := cell_block h'.sim.1 1
      rw [h'.len, HN.out] at s1
      simp only [List.getElem?_toArray, List.getElem?_cons_succ, List.getElem?_cons_zero] at s0 s1
      have q1 := h'.sim.2.cell k (by rw [h'.len, HN.out]; exact hlt)
      have hkind : nodeRight N.given N.nodes.length k (N.nodes.getD k GN.zero) = true := N.right_at h'.right (by rw [HN.out]; exact hlt)
      have bel_next : ∀ (o : Obj) (v : Value), Below w.heap.size w ((wr.setCell ⟨V, k, none⟩ v).alloc o) ∧ Below w.heap.size w ((wr.setCell ⟨V, k, none⟩ v).alloc o).drew := fun o v => ⟨below_next0 hbe (by rw [HV.out]; exact Nat.le_refl _), below_next hbe (by rw [HV.out]; exact Nat.le_refl _)⟩
      have rd : ∀ p, p < k → wr.cell? ⟨V, p, none⟩ = some (.bool ((N.valsTo regs given k).getD p false)) := fun p hp => by
        rw [hro.cell p (by rw [hlen]; omega), pad_get _ k n p (N.valsTo_len regs given k) hp]
      have gv := h'.gvn
      have hgl : ∀ bg off, ag = some ⟨bg, off, none⟩ → bg < wr.heap.size → True := fun _ _ _ _ => trivial
      clear hgl
      obtain ⟨x, hx⟩ : ∃ x, N.nodes.getD k GN.zero = x := ⟨_, rfl⟩
      have HSUCC : Hid (N.valsTo regs given (k + 1) = N.valsTo regs given k ++ [valOf x (regs.getD k false) given (N.valsTo regs given k)]) := by unfold Hid; rw [← hx]; rfl
      rw [hx] at c0 c1 c2 c3 hkind
      have HX := hid hx
      obtain ⟨op, xa, xb, xn⟩ := x
      simp only at c0 c1 c2 c3
      have HRO := hid hro
      have HBE := hid hbe
      have HBN := hid bel_next
      have HRD := hid rd
      have HGV := hid gv
      have HLEN := hid (N.valsTo_len regs given k)
      have hkinds := node_kinds hkind
      clear h' hx hro hbe hlen hkind bel_next rd gv
      generalize List.getD (N.valsTo regs given k ++ List.replicate (n - k) false) k false = old at r1
      generalize hreg : List.getD regs k false = reg at *
      have HREG := hid hreg
      clear hreg
      rcases hkinds with rfl | rfl | ⟨rfl, ha0⟩ | ⟨rfl, hx0, hx1⟩ | ⟨hop, ha0, ha1, hb0, hb1'⟩ | ⟨rfl, ha0, ha1⟩
      · have VAL : Hid (valOf ⟨1, xa, xb, xn⟩ reg given (N.valsTo regs given k) = false) := by unfold Hid; simp [valOf]
        go_wp2
        go_roundw
        case rel =>
          refine ⟨k + 1, by omega, by go_num, ?_, HBE.out.alloc HBE.out.size _⟩
          rw [HSUCC.out, VAL.out, ← pad_false _ k n hlt]
          exact HRO.out.keep (Below.heap_alloc _ _ _ hVlt)
        case measure => simp [intOf]; omega
      · have VAL : Hid (valOf ⟨2, xa, xb, xn⟩ reg given (N.valsTo regs given k) = true) := by unfold Hid; simp [valOf]
        go_wp2
        go_roundw
        case rel =>
          refine ⟨k + 1, by omega, by go_num, ?_, (by first | exact (HBN.out _ _).1 | exact (HBN.out _ _).2)⟩
          rw [HSUCC.out, VAL.out, ← set_pad _ k n _ HLEN.out hlt]
          first | exact HRO.out.next0 | exact HRO.out.next
        case measure => simp [intOf]; omega
      · obtain ⟨p, rfl⟩ := Int.eq_ofNat_of_zero_le ha0
        have VAL : Hid (valOf ⟨3, (p : Int), xb, xn⟩ reg given (N.valsTo regs given k) = given.getD p false) := by unfold Hid; simp [valOf]
        by_cases hp : p < ng
        · obtain ⟨bg, offg, rfl, hbg, hcell⟩ := HGV.out.at (by rw [HNG.out]; omega)
          have g1 := hcell p (by rw [HNG.out]; exact hp)
          have hpI : (p : Int) < ng := by omega
          clear hcell
          generalize given.getD p false = gb at *
          go_wp2
          go_roundw
          case rel =>
            refine ⟨k + 1, by omega, by go_num, ?_, (by first | exact (HBN.out _ _).1 | exact (HBN.out _ _).2)⟩
            rw [HSUCC.out, VAL.out, ← set_pad _ k n _ HLEN.out hlt]
            first | exact HRO.out.next0 | exact HRO.out.next
          case measure => simp [intOf]; omega
        · have VAL2 : Hid (valOf ⟨3, (p : Int), xb, xn⟩ reg given (N.valsTo regs given k) = false) := by
            unfold Hid; rw [VAL.out, List.getD_eq_getElem?_getD, List.getElem?_eq_none (by rw [HNG.out]; omega)]; rfl
          have hpI : decide ((p : Int) < ng) = false := decide_eq_false (by omega)
          clear VAL
          have VAL := VAL2
          clear VAL2
          go_wp2
          go_roundw
          case rel =>
            refine ⟨k + 1, by omega, by go_num, ?_, (by first | exact (HBN.out _ _).1 | exact (HBN.out _ _).2)⟩
            rw [HSUCC.out, VAL.out, ← set_pad _ k n _ HLEN.out hlt]
            first | exact HRO.out.next0 | exact HRO.out.next
          case measure => simp [intOf]; omega
      · have VAL : Hid (valOf ⟨4, xa, xb, xn⟩ reg given (N.valsTo regs given k) = reg) := by unfold Hid; simp [valOf]
        go_wp2
        go_roundw
        case rel =>
          refine ⟨k + 1, by omega, by go_num, ?_, (by first | exact (HBN.out _ _).1 | exact (HBN.out _ _).2)⟩
          rw [HSUCC.out, VAL.out, ← set_pad _ k n _ HLEN.out hlt]
          first | exact HRO.out.next0 | exact HRO.out.next
        case measure => simp [intOf]; omega
      · obtain ⟨p, rfl⟩ := Int.eq_ofNat_of_zero_le ha0
        obtain ⟨q, rfl⟩ := Int.eq_ofNat_of_zero_le hb0
        have u1 := HRD.out p (by omega)
        have u2 := HRD.out q (by omega)
        have hpn : (p : Int) < n := by omega
        have hqn : (q : Int) < n := by omega
        rcases hop with rfl | rfl | rfl
        · have VAL : Hid (valOf ⟨5, (p : Int), (q : Int), xn⟩ reg given (N.valsTo regs given k) = ((N.valsTo regs given k).getD p false && (N.valsTo regs given k).getD q false)) := by unfold Hid; simp [valOf]
          generalize (N.valsTo regs given k).getD p false = x1 at *
          generalize (N.valsTo regs given k).getD q false = x2 at *
          cases x1 <;> cases x2
          all_goals
            simp only [Bool.and_self, Bool.and_true, Bool.and_false, Bool.true_and, Bool.false_and, Bool.or_self, Bool.or_true, Bool.or_false, Bool.true_or, Bool.false_or, bne_self_eq_false, Bool.bne_true, Bool.bne_false, Bool.not_true, Bool.not_false, bne] at VAL
            go_wp2
            go_roundw
            case rel =>
              refine ⟨k + 1, by omega, by go_num, ?_, (by first | exact (HBN.out _ _).1 | exact (HBN.out _ _).2)⟩
              rw [HSUCC.out, VAL.out, ← set_pad _ k n _ HLEN.out hlt]
              first | exact HRO.out.next0 | exact HRO.out.next
            case measure => simp [intOf]; omega
        · have VAL : Hid (valOf ⟨6, (p : Int), (q : Int), xn⟩ reg given (N.valsTo regs given k) = ((N.valsTo regs given k).getD p false || (N.valsTo regs given k).getD q false)) := by unfold Hid; simp [valOf]
          generalize (N.valsTo regs given k).getD p false = x1 at *
          generalize (N.valsTo regs given k).getD q false = x2 at *
          cases x1 <;> cases x2
          all_goals
            simp only [Bool.and_self, Bool.and_true, Bool.and_false, Bool.true_and, Bool.false_and, Bool.or_self, Bool.or_true, Bool.or_false, Bool.true_or, Bool.false_or, bne_self_eq_false, Bool.bne_true, Bool.bne_false, Bool.not_true, Bool.not_false, bne] at VAL
            go_wp2
            go_roundw
            case rel =>
              refine ⟨k + 1, by omega, by go_num, ?_, (by first | exact (HBN.out _ _).1 | exact (HBN.out _ _).2)⟩
              rw [HSUCC.out, VAL.out, ← set_pad _ k n _ HLEN.out hlt]
              first | exact HRO.out.next0 | exact HRO.out.next
            case measure => simp [intOf]; omega
        · have VAL : Hid (valOf ⟨7, (p : Int), (q : Int), xn⟩ reg given (N.valsTo regs given k) = ((N.valsTo regs given k).getD p false != (N.valsTo regs given k).getD q false)) := by unfold Hid; simp [valOf]
          generalize (N.valsTo regs given k).getD p false = x1 at *
          generalize (N.valsTo regs given k).getD q false = x2 at *
          cases x1 <;> cases x2
          all_goals
            simp only [Bool.and_self, Bool.and_true, Bool.and_false, Bool.true_and, Bool.false_and, Bool.or_self, Bool.or_true, Bool.or_false, Bool.true_or, Bool.false_or, bne_self_eq_false, Bool.bne_true, Bool.bne_false, Bool.not_true, Bool.not_false, bne] at VAL
            go_wp2
            go_region
            go_wp2
            go_roundw
            case rel =>
              refine ⟨k + 1, by omega, by go_num, ?_, (by first | exact (HBN.out _ _).1 | exact (HBN.out _ _).2)⟩
              rw [HSUCC.out, VAL.out, ← set_pad _ k n _ HLEN.out hlt]
              first | exact HRO.out.next0 | exact HRO.out.next
            case measure => simp [intOf]; omega
      · obtain ⟨p, rfl⟩ := Int.eq_ofNat_of_zero_le ha0
        have u1 := HRD.out p (by omega)
        have hpn : (p : Int) < n := by omega
        have VAL : Hid (valOf ⟨8, (p : Int), xb, xn⟩ reg given (N.valsTo regs given k) = !((N.valsTo regs given k).getD p false)) := by unfold Hid; simp [valOf]
        generalize (N.valsTo regs given k).getD p false = x1 at *
        go_wp2
        go_roundw
        case rel =>
          refine ⟨k + 1, by omega, by go_num, ?_, (by first | exact (HBN.out _ _).1 | exact (HBN.out _ _).2)⟩
          rw [HSUCC.out, VAL.out, ← set_pad _ k n _ HLEN.out hlt]
          first | exact HRO.out.next0 | exact HRO.out.next
        case measure => simp [intOf]; omega
    · obtain rfl : k = n := by omega
      have hro' : Row wr V (N.vals regs given) := by
        have h := hro
        rw [Nat.sub_self] at h
        unfold Net.vals
        rw [HN.out]
        simpa using h
      have hgr : w.grownBy wr (some r) := grown_of_below hbe
      have hrr : Row wr r (N.regsTo regs (N.vals regs given) 0) := by
        rw [N.regsTo_zero]
        exact HH.out.sim.2.keep (hbe.block r (by rw [HV.out]; exact hlt_r))
      have VL : Hid ((N.vals regs given).length = k) := by unfold Hid Net.vals; rw [N.valsTo_len, HN.out]
      have h' := HH.out.stay hbe
      have s0 := cell_block h'.sim.1 0
      simp only [List.getElem?_toArray, List.getElem?_cons_zero] at s0
      have hn := h'.net.nodes
      rw [HN.out] at hn
      have RL : Hid (regs.length = k) := by unfold Hid; rw [h'.len, HN.out]
      clear hro hbe h'
      generalize hvals : N.vals regs given = vals at *
      have HVALS := hid hvals
      clear hvals
      go_wp2
      obtain ⟨wa, rfl⟩ : ∃ wo : World, wo = wr := ⟨_, rfl⟩
      go_loopw [141] (fun v wr2 => ∃ j : Nat, j ≤ k ∧ v = .int .i64 j ∧ Row wr2 V vals ∧ Row wr2 r (N.regsTo regs vals j) ∧ w.grownBy wr2 (some r)) (fun v _ => k - (intOf v).toNat)
      case atStart => exact ⟨0, Nat.zero_le _, rfl, hro', hrr, hgr⟩
      case round =>
        obtain ⟨j, hj, rfl, hv2, hr2, hg2⟩ := hrel
        obtain ⟨wr2, rfl⟩ : ∃ wo : World, wo = wr := ⟨_, rfl⟩
        clear hro' hgr hrr s0 hn
        have hbB : Below B w wr2 := below_of_grown hg2 HH.out.bw HH.out.br
        have hnet := HH.out.net.stay hbB
        have hsim : wr2.heap[s]? = some (.cells #[.pointer (some ⟨b, 0, none⟩), .slice (some ⟨r, 0, none⟩) regs.length regs.length] 111 (0, 0)) := by
          rw [hg2.block s (by rw [HV.out]; exact hlt_s) (by simp; exact HH.out.sr)]
          exact HH.out.sim.1
        rw [RL.out] at hsim
        have hV2 := hv2.lt
        have hR2 := hr2.lt
        by_cases hjlt : j < k
        · obtain ⟨b1, off, rfl, hb1, c0, c1, c2, c3⟩ := hnet.node j (by rw [HN.out]; exact hjlt)
          have hb1w : b1 < wr2.heap.size := Nat.lt_of_lt_of_le hb1 (Nat.le_trans HH.out.bw hg2.size)
          have hsw : s < wr2.heap.size := by have := hg2.size; rw [HV.out] at this; omega
          have hkI : (j : Int) < k := by omega
          have hk0 : (0 : Int) ≤ j := by omega
          have s1 := cell_block hsim 1
          simp only [List.getElem?_toArray, List.getElem?_cons_succ, List.getElem?_cons_zero] at s1
          have q1 := hr2.cell j (by rw [N.regsTo_len, RL.out]; exact hjlt)
          have q2 := hr2.free j
          have hkind : nodeRight N.given N.nodes.length j (N.nodes.getD j GN.zero) = true := N.right_at HH.out.right (by rw [HN.out]; exact hjlt)
          have HSET := hid (N.regsTo_reg regs vals j (by rw [RL.out]; exact hjlt))
          have HSKIP := hid (N.regsTo_skip regs vals j)
          obtain ⟨x, hx⟩ : ∃ x, N.nodes.getD j GN.zero = x := ⟨_, rfl⟩
          rw [hx] at c0 c1 c2 c3 hkind
          have HX := hid hx
          have HV2 := hid hv2
          have HR2 := hid hr2
          have HG2 := hid hg2
          have RD : Hid (∀ p, p < k → wr2.cell? ⟨V, p, none⟩ = some (.bool (vals.getD p false))) := fun p hp => hv2.cell p (by rw [VL.out]; exact hp)
          obtain ⟨op, xa, xb, xn⟩ := x
          simp only at c0 c1 c2 c3
          clear hx hv2 hr2 hg2 hbB hnet hsim
          generalize List.getD (N.regsTo regs vals j) j false = old at q1
          cases ho : op == 4
          · have hne : ¬ op = 4 := by simpa using ho
            have E : Hid (N.regsTo regs vals (j + 1) = N.regsTo regs vals j) := HSKIP.out (by rw [HX.out]; exact hne)
            clear hkind hne
            go_wp2
            go_roundw
            case rel =>
              refine ⟨j + 1, by omega, by go_num, HV2.out.keep (Below.heap_alloc _ _ _ hV2), ?_, grown_alloc HG2.out _⟩
              rw [E.out]
              exact HR2.out.keep (Below.heap_alloc _ _ _ hR2)
            case measure => simp [intOf]; omega
          · have he : op = 4 := by simpa using ho
            have hnx : 0 ≤ xn ∧ xn < (N.nodes.length : Int) := by
              rcases node_kinds hkind with h | h | h | h | h | h <;> omega
            rw [HN.out] at hnx
            obtain ⟨hx0, hx1⟩ := hnx
            have E := HSET.out (by rw [HX.out]; exact he)
            rw [HX.out] at E
            obtain ⟨p, rfl⟩ := Int.eq_ofNat_of_zero_le hx0
            have u1 := RD.out p (by omega)
            have E' : (N.regsTo regs vals j).set j (vals.getD p false) = N.regsTo regs vals (j + 1) := E
            have HE := hid E'
            clear hkind he E E'
            generalize vals.getD p false = nv at *
            go_wp2
            go_region
            go_wp2
            go_roundw
            case rel =>
              refine ⟨j + 1, by omega, by go_num, ?_, ?_, (by first | exact grown_drew (grown_alloc (grown_set HG2.out _ _) _) | exact grown_alloc (grown_set HG2.out _ _) _)⟩
              · first | exact HV2.out.keep (other_row (by omega) hV2) | exact HV2.out.keep (other_row0 (by omega) hV2)
              · rw [← HE.out]
                first | exact HR2.out.next | exact HR2.out.next0
            case measure => simp [intOf]; omega
        · obtain rfl : j = k := by omega
          have hsz2 := N.right_sizes HH.out.right
          obtain ⟨n', hn'⟩ : ∃ n', N.outs.length = n' := ⟨_, rfl⟩
          have HN' := hid hn'
          have hn'le : n' ≤ 20000 := by omega
          have ho2 := hnet.outs
          rw [hn'] at ho2
          have s0 := cell_block hsim 0
          simp only [List.getElem?_toArray, List.getElem?_cons_zero] at s0
          have HRO := hid hnet.ro
          have hBw2 : B ≤ wr2.heap.size := Nat.le_trans HH.out.bw hg2.size
          have HV2 := hid hv2
          have HR2 := hid hr2
          have HG2 := hid hg2
          obtain ⟨i0, hi, hz0, hz1, hz2⟩ := info_parts Tryd.infoBool
          have RD : Hid (∀ p, p < j → wr2.cell? ⟨V, p, none⟩ = some (.bool (vals.getD p false))) := fun p hp => hv2.cell p (by rw [VL.out]; exact hp)
          clear hn' hsz2 hv2 hr2 hg2 hbB hnet hsim
          go_wp2
          go_loopw [10, 169] (fun o v wr3 => ∃ m : Nat, m ≤ n' ∧ v = .int .i64 m ∧ wr3.ownsRow wr2.heap.size 4 1 o m (((N.outs.take m).map fun z => vals.getD z.toNat false).map .bool) ∧ Below wr2.heap.size wr2 wr3) (fun _ v _ => n' - (intOf v).toNat)
          case atStart => exact ⟨0, Nat.zero_le _, rfl, World.ownsRow_nil _ _ _ _, Below.refl _ _⟩
          case round =>
            obtain ⟨m, hm', rfl, hown, hbel⟩ := hrel
            obtain ⟨wr3, rfl⟩ : ∃ wo : World, wo = wr := ⟨_, rfl⟩
            clear s0 ho2
            by_cases hmlt : m < n'
            · obtain ⟨b1, off, rfl, hb1, hcell⟩ := HRO.out.at (by rw [HN'.out]; omega)
              have hc := (hbel.cell (p := ⟨b1, off + m, none⟩) (Nat.lt_of_lt_of_le hb1 hBw2)).trans (hcell m (by rw [HN'.out]; exact hmlt))
              have hz := N.out_at HH.out.right (k := m) (by rw [HN'.out]; exact hmlt)
              rw [HN.out] at hz
              have htake : N.outs.take (m + 1) = N.outs.take m ++ [N.outs.getD m 0] := by
                have hl : m < N.outs.length := by rw [HN'.out]; exact hmlt
                rw [List.take_succ_eq_append_getElem hl]
                simp [List.getD_eq_getElem?_getD, hl]
              obtain ⟨z, hzz⟩ : ∃ z, N.outs.getD m 0 = z := ⟨_, rfl⟩
              rw [hzz] at hc hz htake
              have HT := hid htake
              obtain ⟨hz0', hz1'⟩ := hz
              obtain ⟨p, rfl⟩ := Int.eq_ofNat_of_zero_le hz0'
              have u1 := (hbel.cell (p := ⟨V, p, none⟩) hV2).trans (RD.out p (by omega))
              have hmI : (m : Int) < n' := by omega
              have hm0 : (0 : Int) ≤ m := by omega
              have hsz3 := hbel.size
              have HO := hid hown
              have HB := hid hbel
              obtain ⟨bv, hbv⟩ : ∃ bv, vals.getD p false = bv := ⟨_, rfl⟩
              rw [hbv] at u1
              have HBV := hid hbv
              clear hcell htake hzz hbel hbv hown
              go_wp2_with (at_builtin; refine wpList_push _ wr2 wr3 rfl _ _ 62 rfl 4 i0 (.bool false) 1 1 Tryd.underlying62 hi hz0 hz1 hz2 rfl (by decide) wr2.heap.size _ _ _ rfl HO.out 1 1 _ rfl rfl rfl rfl ?c3 ?c4 HB.out (Nat.le_refl _) hsz3 ?_)
              case c3 => unfold maxLen; omega
              case c4 => omega
              intro v' w5 hown' hbel' _ _
              have HO2 := hid hown'
              have HB2 := hid hbel'
              clear hown' hbel' HO HB
              go_wp2
              go_roundw
              case rel =>
                refine ⟨m + 1, by omega, by go_num, ?_, HB2.out⟩
                rw [HT.out, List.map_append, List.map_append]
                have e : [(p : Int)].map (fun z => vals.getD z.toNat false) = [bv] := by
                  simp only [List.map_cons, List.map_nil, Int.toNat_natCast]
                  rw [HBV.out]
                rw [e]
                simpa using HO2.out
              case measure => simp [intOf]; omega
            · obtain rfl : m = n' := by omega
              have hsz3 := HG2.out.size
              go_wp2
              go_ret
              refine ⟨_, rfl, ?_, ?_, grown_then HG2.out hbel⟩
              · rw [HN'.out]
                have e : N.outVals regs given = (N.outs.take m).map fun z => vals.getD z.toNat false := by
                  unfold Net.outVals
                  rw [HVALS.out, List.take_of_length_le (by rw [HN'.out]; exact Nat.le_refl _)]
                rw [e]
                exact ownsRow_base hown hsz3
              · unfold Net.regs'
                rw [HVALS.out, HN.out]
                exact HR2.out.keep (hbel.block r hR2)
end Go.Proofs.YtlaeflpddehipabDoor

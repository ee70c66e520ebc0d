/- The document's Net.Step, walked (written by gen_refstep.py). -/
import Derived.Test.YtlaeflpddehipaaDoorRegMap
import Derived.Test.YtlaeflpddehipaaDoorNetStep
import Derived.Test.YtlaeflpddehipaaDoorRegion
set_option linter.unusedVariables false
set_option linter.unusedSimpArgs false
set_option linter.unusedSectionVars false
namespace Go.Proofs.YtlaeflpddehipaaDoor
open Go.RowKit Go.Maps

theorem push_g {P : Program} {ops : Array Oper} {rest : List Oper} {o : Oper} {a : Act} {Q : Exit → Act → World → Prop} (W w0 wr : World) (g : Nat) (hg : wr.heap.size = g) (hgd : o.guard = none) (s x : Operand) (t : TypeId)
    (ho : o.op = .call { callee := .builtin .append, args := #[s, x], argTypes := #[t, t] })
    (e : TypeId) (i : TypeInfo) (z : Value) (size bytes : Nat) (ht : P.underlying t = some (.slice e)) (hi : P.info? e = some i) (hz : i.zero = some z)
    (hsize : i.size = size) (hby : i.bytes = bytes) (hzs : z.cells.size = size) (hsz : 0 < size)
    (base : Nat) (v : Value) (n : Nat) (xs : List Value) (hs : a.eval s = v) (hown : wr.ownsRow base e size v n xs)
    (m c : Nat) (cs : Array Value) (hW : W = wr.alloc (.cells cs e)) (hx : a.eval x = .slice (some ⟨g, 0, none⟩) m c) (hl : cs.size = m * size) (h1 : cs.toList.all Value.oneCell' = true)
    (h63 : n + m ≤ maxLen) (hbytes : (n + m) * bytes ≤ 140737488355328) (hbel : Below w0.heap.size w0 wr) (hbase : w0.heap.size ≤ base) (hbase' : base ≤ wr.heap.size)
    (h : ∀ v' w', w'.ownsRow base e size v' (n + m) (xs ++ cs.toList) → Below w0.heap.size w0 w' → wr.grownBy w' v.ownBlock → (v' = .slice none 0 0 ↔ v = .slice none 0 0 ∧ m = 0) → wpList P ops Q rest (a.put o.dst v') w') :
    wpList P ops Q (o :: rest) a W := by
  subst hg
  exact wpList_push W w0 wr hgd s x t ho e i z size bytes ht hi hz hsize hby hzs hsz base v n xs hs hown m c cs hW hx hl h1 h63 hbytes hbel hbase hbase' h
theorem le_alloc' {n : Nat} {w : World} (h : n ≤ w.heap.size) (o : Obj) : n ≤ (w.alloc o).heap.size := by simp; omega
theorem row_drew {w : World} {base e size n : Nat} {v : Value} {xs : List Value} (h : w.ownsRow base e size v n xs) : w.drew.ownsRow base e size v n xs := h
theorem cells_congr' {B : Nat} {w : World} {a : Option Addr} {m : Nat} {f g : Nat → Value} (h : Cells B w a m f) (e : ∀ j, j < m → f j = g j) : Cells B w a m g := by
  rcases h with h | ⟨b, off, ha, hb, hc⟩
  · exact .inl h
  · exact .inr ⟨b, off, ha, hb, fun j hj => by rw [← e j hj]; exact hc j hj⟩
theorem row_bits {w : World} {base n : Nat} {v : Value} {l : List Bool} (h : w.ownsRow base 4 1 v n (l.map .bool)) : ∃ a c, v = .slice a n c ∧ Cells w.heap.size w a n (fun j => .bool (l.getD j false)) := by
  obtain ⟨a, c, rfl, _, _, hc⟩ := Cells.of_owns h
  rw [Nat.mul_one] at hc
  have hl : l.length = n := by have := h.1; simp at this; omega
  refine ⟨a, c, rfl, cells_congr' hc fun j hj => ?_⟩
  have hj' : j < l.length := by omega
  simp [List.getD_eq_getElem?_getD, hj']
theorem row_next {w : World} {base k : Nat} {v : Value} {l l' : List Bool} {b : Bool} (h : w.ownsRow base 4 1 v (k + 1) (l.map .bool ++ #[Value.bool b].toList)) (e : l' = l ++ [b]) : w.ownsRow base 4 1 v (k + 1) (l'.map .bool) := by
  rw [e, List.map_append]
  exact h
theorem ownsMap_stay {H : Type} {P : Program} {K : TypeId} {R : Value → Option (DataW H × List MemPlace)} {w w' : World} {b n C : Nat} {D : DataW H} (h : w.ownsMap P K R b n D) (hb : Below C w w') (hC : b < C) : w'.ownsMap P K R b n D := by
  obtain ⟨es, clock, hg, F, hs, hD⟩ := h
  exact ⟨es, clock, (hb.block b hC).trans hg, F, hs, hD⟩
theorem Regs.stay {w w' : World} {bs : Nat} {l : List GN} {f : Nat → Bool} {n C : Nat} (h : Regs w bs l f n) (hb : Below C w w') (hC : bs < C) : Regs w' bs l f n := by
  obtain ⟨D, h1, h2⟩ := h
  exact ⟨D, ownsMap_stay h1 hb hC, h2⟩
theorem Regs.look {w : World} {bs : Nat} {l : List GN} {f : Nat → Bool} {n k : Nat} (h : Regs w bs l f n) (hk : k < l.length) (hop : (l.getD k GN.zero).op = 4) (hl : l.length ≤ 20000) :
    (Instr.lookup 43 (.map (some bs)) (.int .i64 (k : Int)) false).run Tryd.prog w = .ok (.bool (f k)) w := by
  obtain ⟨D, h1, h2⟩ := h
  have hz : (zeroValue 4).run Tryd.prog w = .ok (.bool false) w := by kernel_rfl
  obtain ⟨v, ps, hrun, hv⟩ := h1.lookup Tryd.intKey Tryd.underlying43 hz (plainElem_bool Tryd.underlying4 false) (keyOf_int_mk Tryd.underlying3 (wf_low' ⟨by omega, by omega⟩ : (Lit.int .i64 (k : Int)).wf = true))
  have hs : regKey l l.length (.int .i64 (k : Int)) = true := by
    unfold regKey
    exact decide_eq_true ⟨by omega, by omega, by simpa using hop⟩
  rw [h2.2 k hs] at hv
  obtain ⟨b, rfl, hb⟩ := plainElem_bool_inv Tryd.underlying4 hv
  simp only [Prod.mk.injEq, DataW.lit.injEq, Lit.bool.injEq] at hb
  rw [hrun, hb.1]
theorem ownsMap_size {H : Type} {P : Program} {K : TypeId} {R : Value → Option (DataW H × List MemPlace)} {w : World} {b n : Nat} {D : DataW H} (h : w.ownsMap P K R b n D) : Maps.size D ≤ n := by
  obtain ⟨es, clock, hg, F, hs, rfl⟩ := h
  rw [size_eq, length_sorted]
  simpa using hs
theorem next_key {H : Type} {P : Program} (w : World) {ops : Array Oper} {rest : List Oper} {o : Oper} {a : Act} {Q : Exit → Act → World → Prop} (hg : o.guard = none) (it : Operand) (hop : o.op = Op.next it false) (k : TypeId) (R : Value → Option (DataW H × List MemPlace)) (K : Keyed P k) (hk : P.underlying k = some (.int .i64))
    (b r n : Nat) (D : DataW H) (left : Lit → Bool) (cnt : Nat) (hit : a.eval it = .pointer (some ⟨r, 0, none⟩)) (h : w.ranges P k R b r n D left cnt)
    (hDone : cnt = 0 → (∀ kl, left kl = false) → wpList P ops Q rest (a.put o.dst (.tuple #[.bool false])) w)
    (hMore : ∀ (x : Int) (v : Value) (w' : World) (cnt' : Nat), (Lit.int .i64 x).wf = true → left (.int .i64 x) = true → has D (.int .i64 x) = true → w'.ranges P k R b r n D (fun z => left z && !z.sameKey (.int .i64 x)) cnt' → cnt' < cnt →
      w.grownBy w' (some r) → w'.heap.size = w.heap.size → (Instr.entry (.pointer (some ⟨r, 0, none⟩))).run P w' = .ok (.tuple #[.int .i64 x, v]) w' → wpList P ops Q rest (a.put o.dst (.tuple #[.bool true, .int .i64 x, v])) w') :
    wpList P ops Q (o :: rest) a w :=
  wpList_next_ranges w hg it hop k K R (Value.int .i64) (fun v : Value => v) (fun key kl hkey => by obtain ⟨x, rfl, _⟩ := Maps.keyOf_int_inv hk hkey; exact ⟨x, rfl⟩) (fun v y hv => ⟨v, rfl⟩)
    b r n D left cnt hit h hDone (fun x v kl y w' cnt' hkey hlk hv hat hrg hlt hgr hsz hen => by
      obtain ⟨x', ex, rfl, hwx⟩ := Maps.keyOf_int_inv hk hkey
      cases ex
      exact hMore x v w' cnt' hwx hlk (has_true_of_atKey hat) hrg hlt hgr hsz hen)
theorem regD_start (f : Nat → Bool) (D0 : DataW Unit) : RegD f (fun x => has D0 x && !has D0 x) (.map []) :=
  ⟨fun x => by cases h : has D0 x <;> simp [h] <;> rfl, fun i h => by cases h' : has D0 (.int .i64 (i : Int)) <;> simp [h'] at h⟩
theorem regD_step {f : Nat → Bool} {D0 D : DataW Unit} {left : Lit → Bool} {i : Nat} {b : Bool} (h : RegD f (fun x => has D0 x && !left x) D) (hm : IsMap D) (hb : f i = b) (h0 : has D0 (.int .i64 (i : Int)) = true) :
    RegD f (fun x => has D0 x && !(left x && !x.sameKey (.int .i64 (i : Int)))) (D.put (.int .i64 (i : Int)) (.lit (.bool b))) := by
  refine regD_put h hm hb ?_ fun x hx => ?_
  · simp [h0, Lit.sameKey]
  · simp [sameKey_ne hx]
theorem regKey_inv {l : List GN} {k : Nat} {x : Int} (h : regKey l k (.int .i64 x) = true) : ∃ p : Nat, x = p ∧ p < k ∧ (l.getD p GN.zero).op = 4 := by
  unfold regKey at h
  obtain ⟨h0, h1, h2⟩ := of_decide_eq_true h
  obtain ⟨p, rfl⟩ := Int.eq_ofNat_of_zero_le h0
  exact ⟨p, rfl, by omega, by simpa using h2⟩
theorem regD_done {l : List GN} {n : Nat} {f f' : Nat → Bool} {D0 D : DataW Unit} {left : Lit → Bool} (h : RegD f (fun x => has D0 x && !left x) D) (h0 : ∀ x, has D0 x = regKey l n x) (hl : ∀ x, left x = false)
    (e : ∀ i : Nat, i < n → (l.getD i GN.zero).op = 4 → f i = f' i) : RegD f' (regKey l n) D := by
  refine ⟨fun x => by have e := h.1 x; simp only [hl x, h0 x] at e; simpa using e, fun i hi z => ?_⟩
  obtain ⟨p, hp, h1, h2⟩ := regKey_inv hi
  have hip : i = p := by omega
  subst hip
  rw [h.2 i (by simp only [hl, h0, hi]; rfl) z, e i h1 h2]
theorem Net.regs'_at (N : Net) (regs given : List Bool) (hl : regs.length = N.nodes.length) (i : Nat) (hi : i < N.nodes.length) (h4 : (N.nodes.getD i GN.zero).op = 4) :
    (N.regs' regs given).getD i false = (N.vals regs given).getD (N.nodes.getD i GN.zero).next.toNat false := by
  have e : (List.range N.nodes.length)[i]? = some i := by simp [hi]
  unfold Net.regs' Net.regsTo
  rw [List.getD_eq_getElem?_getD, List.getElem?_map, hl, e]
  simp only [Option.map_some, Option.getD_some]
  rw [if_pos ⟨hi, h4⟩]
section
variable (B : Nat) (a : Option Addr) (c : Nat) (a' : Option Addr) (c' : Nat) (N : Net) (w : World) (bs m : Nat) (regs : List Bool) (ag : Option Addr) (cg : Nat) (given : List Bool)
set_option maxRecDepth 100000 in
set_option maxHeartbeats 6400000 in
theorem RefStep_any (h : NetRows B w a c a' c' N) (hB : B ≤ w.heap.size) (hr : N.right = true) (hrl : regs.length = N.nodes.length) (hrg : Regs w bs N.nodes (fun i => regs.getD i false) m) (hm : m ≤ 20000)
    (hgv : Cells w.heap.size w ag given.length (fun i => .bool (given.getD i false))) (hgl : given.length ≤ 20000) :
    Calls Tryd.prog 12 #[.agg #[.int .i64 N.given, .slice a N.nodes.length c, .slice a' N.outs.length c'], .map (some bs), .slice ag given.length cg] w fun e w' =>
      ∃ v bs', e = .returned (.tuple #[v, .map (some bs')]) ∧ w'.ownsRow w.heap.size 4 1 v N.outs.length ((N.outVals regs given).map .bool) ∧ w.heap.size ≤ bs' ∧ Regs w' bs' N.nodes (fun i => (N.regs' regs given).getD i false) m ∧ Below w.heap.size w w' := by
  have hmm := @run_makeMap Tryd.prog
  have HI := hid (rbox B a c a' c' N w h hB)
  have hb1 : Below w.heap.size w (w.alloc (.cells #[.int .i64 N.given, .slice a N.nodes.length c, .slice a' N.outs.length c'] 29)) := (Below.refl _ _).alloc (Nat.le_refl _) _
  have HB1 := hid hb1
  have hbs : bs < w.heap.size := by obtain ⟨D, h1, _⟩ := hrg; exact h1.lt
  have HRG := hid (hrg.stay hb1 hbs)
  have HGV := hid ((hgv.stay hb1).mono hb1.size)
  have HRR := hid hr
  have HRL := hid hrl
  have hsz1 : (w.alloc (.cells #[.int .i64 N.given, .slice a N.nodes.length c, .slice a' N.outs.length c'] 29)).heap.size = w.heap.size + 1 := by simp
  have HSZ1 := hid hsz1
  obtain ⟨_, _, hl, hlo⟩ := N.right_sizes hr
  obtain ⟨n, hN⟩ : ∃ n, N.nodes.length = n := ⟨_, rfl⟩
  obtain ⟨n', hN'⟩ : ∃ n', N.outs.length = n' := ⟨_, rfl⟩
  obtain ⟨ng, hNG⟩ : ∃ ng, given.length = ng := ⟨_, rfl⟩
  rw [hN] at hl
  rw [hN'] at hlo
  rw [hNG] at hgl
  have HN := hid hN
  have HN' := hid hN'
  have HNG := hid hNG
  rw [hN, hN'] at HI HB1 HSZ1 HRG HGV ⊢
  rw [hNG] at ⊢
  obtain ⟨i0, hi, hz0, hz1, hz2⟩ := info_parts Tryd.infoBool
  clear h hN hN' hNG hb1 hsz1 hr hrl hrg hgv
  go_enter Tryd.func12, Tryd.ntmps12
  go_upto_region 1 with fail
  generalize w.alloc (.cells #[.int .i64 N.given, .slice a n c, .slice a' n' c'] 29) = w1 at *
  have hlt1 : w.heap.size < w1.heap.size := by have := HSZ1.out; omega
  have hle1 : w.heap.size + 1 ≤ w1.heap.size := by omega
  have hbs1 : bs < w1.heap.size := by omega
  have hn1 := HI.out.nodes
  rw [HN.out] at hn1
  go_wp2_with fail
  clear hn1
  go_loopw [8, 20] (fun v i wr => ∃ k : Nat, k ≤ n ∧ i = .int .i64 k ∧ wr.ownsRow w1.heap.size 4 1 v k ((N.valsTo regs given k).map .bool) ∧ Below w1.heap.size w1 wr) (fun _ i _ => n - (intOf i).toNat)
  case atStart => exact ⟨0, Nat.zero_le _, rfl, World.ownsRow_nil _ _ _ _, Below.refl _ _⟩
  case round =>
    obtain ⟨k, hk, rfl, hown, hbel⟩ := hrel
    have hsz := hbel.size
    by_cases hlt : k < n
    · have h' := HI.out.stay (hbel.mono hle1)
      obtain ⟨b1, off, rfl, hb1, c0, c1, c2, c3⟩ := h'.node k (by rw [HN.out]; exact hlt)
      have hb1r : b1 < wr.heap.size := by omega
      have hkI : (k : Int) < n := by omega
      have hk0 : (0 : Int) ≤ k := by omega
      have hkind : nodeRight N.given N.nodes.length k (N.nodes.getD k GN.zero) = true := N.right_at HRR.out (by rw [HN.out]; exact hlt)
      obtain ⟨av, cv, rfl, hvc⟩ := row_bits hown
      have HVC := hid hvc
      have HOW := hid hown
      have HBL := hid hbel
      have HG2 := hid (HGV.out.stay hbel)
      have HR2 := hid (HRG.out.stay hbel hbs1)
      obtain ⟨x, hx⟩ : ∃ x, N.nodes.getD k GN.zero = x := ⟨_, rfl⟩
      have HSUCC : Hid (N.valsTo regs given (k + 1) = N.valsTo regs given k ++ [valOf x (regs.getD k false) given (N.valsTo regs given k)]) := by unfold Hid; rw [← hx]; rfl
      rw [hx] at c0 c1 c2 c3 hkind
      have HX := hid hx
      obtain ⟨op, xa, xb, xn⟩ := x
      simp only at c0 c1 c2 c3
      have hkinds := node_kinds hkind
      clear h' hx hown hbel hkind hvc
      generalize hreg : List.getD regs k false = reg at *
      have HREG := hid hreg
      clear hreg
      rcases hkinds with rfl | rfl | ⟨rfl, ha0⟩ | ⟨rfl, hx0, hx1⟩ | ⟨hop, ha0, ha1, hb0, hb1'⟩ | ⟨rfl, ha0, ha1⟩
      · have VAL : Hid (valOf ⟨1, xa, xb, xn⟩ reg given (N.valsTo regs given k) = false) := by unfold Hid; simp [valOf]
        go_wp2_with (at_builtin; refine push_g _ w1 (wr.alloc _) _ (World.size_alloc _ _) rfl _ _ 45 rfl 4 i0 (.bool false) 1 1 Tryd.underlying45 hi hz0 hz1 hz2 rfl (by decide) w1.heap.size _ _ _ rfl (HOW.out.alloc _) 1 1 _ rfl rfl rfl rfl ?c3 ?c4 (HBL.out.alloc hsz _) (Nat.le_refl _) (le_alloc' hsz _) ?_)
        case c3 => unfold maxLen; omega
        case c4 => omega
        intro v' w3 hown3 hbel3 _ _
        have HO3 := hid hown3
        have HB3 := hid hbel3
        clear hown3 hbel3 HOW HBL
        go_wp2
        go_roundw
        case rel => exact ⟨k + 1, by omega, by go_num, row_next HO3.out (by rw [HSUCC.out, VAL.out] <;> rfl), HB3.out⟩
        case measure => simp [intOf]; omega
      · have VAL : Hid (valOf ⟨2, xa, xb, xn⟩ reg given (N.valsTo regs given k) = true) := by unfold Hid; simp [valOf]
        go_wp2_with (at_builtin; refine push_g _ w1 (wr.alloc _) _ (World.size_alloc _ _) rfl _ _ 45 rfl 4 i0 (.bool false) 1 1 Tryd.underlying45 hi hz0 hz1 hz2 rfl (by decide) w1.heap.size _ _ _ rfl (HOW.out.alloc _) 1 1 _ rfl rfl rfl rfl ?c3 ?c4 (HBL.out.alloc hsz _) (Nat.le_refl _) (le_alloc' hsz _) ?_)
        case c3 => unfold maxLen; omega
        case c4 => omega
        intro v' w3 hown3 hbel3 _ _
        have HO3 := hid hown3
        have HB3 := hid hbel3
        clear hown3 hbel3 HOW HBL
        go_wp2
        go_roundw
        case rel => exact ⟨k + 1, by omega, by go_num, row_next HO3.out (by rw [HSUCC.out, VAL.out] <;> rfl), HB3.out⟩
        case measure => simp [intOf]; omega
      · obtain ⟨p, rfl⟩ := Int.eq_ofNat_of_zero_le ha0
        have VAL : Hid (valOf ⟨3, (p : Int), xb, xn⟩ reg given (N.valsTo regs given k) = given.getD p false) := by unfold Hid; simp [valOf]
        by_cases hp : p < ng
        · obtain ⟨bg, offg, rfl, hbg, hcell⟩ := HG2.out.at (by rw [HNG.out]; omega)
          have hbgr : bg < wr.heap.size := by omega
          have g1 := hcell p (by rw [HNG.out]; exact hp)
          have hpI : (p : Int) < ng := by omega
          clear hcell
          generalize given.getD p false = gb at *
          go_wp2_with (at_builtin; refine push_g _ w1 (wr.alloc _) _ (World.size_alloc _ _) rfl _ _ 45 rfl 4 i0 (.bool false) 1 1 Tryd.underlying45 hi hz0 hz1 hz2 rfl (by decide) w1.heap.size _ _ _ rfl (HOW.out.alloc _) 1 1 _ rfl rfl rfl rfl ?c3 ?c4 (HBL.out.alloc hsz _) (Nat.le_refl _) (le_alloc' hsz _) ?_)
          case c3 => unfold maxLen; omega
          case c4 => omega
          intro v' w3 hown3 hbel3 _ _
          have HO3 := hid hown3
          have HB3 := hid hbel3
          clear hown3 hbel3 HOW HBL
          go_wp2
          go_roundw
          case rel => exact ⟨k + 1, by omega, by go_num, row_next HO3.out (by rw [HSUCC.out, VAL.out] <;> rfl), HB3.out⟩
          case measure => simp [intOf]; omega
        · have VAL2 : Hid (valOf ⟨3, (p : Int), xb, xn⟩ reg given (N.valsTo regs given k) = false) := by
            unfold Hid; rw [VAL.out, List.getD_eq_getElem?_getD, List.getElem?_eq_none (by rw [HNG.out]; omega)]; rfl
          have hpI : decide ((p : Int) < ng) = false := decide_eq_false (by omega)
          clear VAL
          have VAL := VAL2
          clear VAL2
          go_wp2_with (at_builtin; refine push_g _ w1 (wr.alloc _) _ (World.size_alloc _ _) rfl _ _ 45 rfl 4 i0 (.bool false) 1 1 Tryd.underlying45 hi hz0 hz1 hz2 rfl (by decide) w1.heap.size _ _ _ rfl (HOW.out.alloc _) 1 1 _ rfl rfl rfl rfl ?c3 ?c4 (HBL.out.alloc hsz _) (Nat.le_refl _) (le_alloc' hsz _) ?_)
          case c3 => unfold maxLen; omega
          case c4 => omega
          intro v' w3 hown3 hbel3 _ _
          have HO3 := hid hown3
          have HB3 := hid hbel3
          clear hown3 hbel3 HOW HBL
          go_wp2
          go_roundw
          case rel => exact ⟨k + 1, by omega, by go_num, row_next HO3.out (by rw [HSUCC.out, VAL.out] <;> rfl), HB3.out⟩
          case measure => simp [intOf]; omega
      · have VAL : Hid (valOf ⟨4, xa, xb, xn⟩ reg given (N.valsTo regs given k) = reg) := by unfold Hid; simp [valOf]
        have hlook := Regs.look (HR2.out.stay ((Below.refl _ _).alloc (Nat.le_refl _) (.cells #[.int .i64 4, .int .i64 xa, .int .i64 xb, .int .i64 xn] 31)) (by omega)) (k := k) (by rw [HN.out]; exact hlt) (by rw [HX.out]) (by rw [HN.out]; exact hl)
        simp only [HREG.out] at hlook
        go_wp2_with (at_builtin; refine push_g _ w1 (wr.alloc _) _ (World.size_alloc _ _) rfl _ _ 45 rfl 4 i0 (.bool false) 1 1 Tryd.underlying45 hi hz0 hz1 hz2 rfl (by decide) w1.heap.size _ _ _ rfl (HOW.out.alloc _) 1 1 _ rfl rfl rfl rfl ?c3 ?c4 (HBL.out.alloc hsz _) (Nat.le_refl _) (le_alloc' hsz _) ?_)
        case c3 => unfold maxLen; omega
        case c4 => omega
        intro v' w3 hown3 hbel3 _ _
        have HO3 := hid hown3
        have HB3 := hid hbel3
        clear hown3 hbel3 HOW HBL
        go_wp2
        go_roundw
        case rel => exact ⟨k + 1, by omega, by go_num, row_next HO3.out (by rw [HSUCC.out, VAL.out] <;> rfl), HB3.out⟩
        case measure => simp [intOf]; omega
      · obtain ⟨p, rfl⟩ := Int.eq_ofNat_of_zero_le ha0
        obtain ⟨q, rfl⟩ := Int.eq_ofNat_of_zero_le hb0
        obtain ⟨bv, ov, rfl, hbv, hvc⟩ := HVC.out.at (by omega)
        have u1 := hvc p (by omega)
        have u2 := hvc q (by omega)
        have hpn : (p : Int) < k := by omega
        have hqn : (q : Int) < k := by omega
        clear hvc
        rcases hop with rfl | rfl | rfl
        · have VAL : Hid (valOf ⟨5, (p : Int), (q : Int), xn⟩ reg given (N.valsTo regs given k) = ((N.valsTo regs given k).getD p false && (N.valsTo regs given k).getD q false)) := by unfold Hid; simp [valOf]
          generalize (N.valsTo regs given k).getD p false = x1 at *
          generalize (N.valsTo regs given k).getD q false = x2 at *
          cases x1 <;> cases x2
          all_goals
            simp only [Bool.and_self, Bool.and_true, Bool.and_false, Bool.true_and, Bool.false_and, Bool.or_self, Bool.or_true, Bool.or_false, Bool.true_or, Bool.false_or, bne_self_eq_false, Bool.bne_true, Bool.bne_false, Bool.not_true, Bool.not_false, bne] at VAL
            go_wp2_with (at_builtin; refine push_g _ w1 (wr.alloc _) _ (World.size_alloc _ _) rfl _ _ 45 rfl 4 i0 (.bool false) 1 1 Tryd.underlying45 hi hz0 hz1 hz2 rfl (by decide) w1.heap.size _ _ _ rfl (HOW.out.alloc _) 1 1 _ rfl rfl rfl rfl ?c3 ?c4 (HBL.out.alloc hsz _) (Nat.le_refl _) (le_alloc' hsz _) ?_)
            case c3 => unfold maxLen; omega
            case c4 => omega
            intro v' w3 hown3 hbel3 _ _
            have HO3 := hid hown3
            have HB3 := hid hbel3
            clear hown3 hbel3 HOW HBL
            go_wp2
            go_roundw
            case rel => exact ⟨k + 1, by omega, by go_num, row_next HO3.out (by rw [HSUCC.out, VAL.out] <;> rfl), HB3.out⟩
            case measure => simp [intOf]; omega
        · have VAL : Hid (valOf ⟨6, (p : Int), (q : Int), xn⟩ reg given (N.valsTo regs given k) = ((N.valsTo regs given k).getD p false || (N.valsTo regs given k).getD q false)) := by unfold Hid; simp [valOf]
          generalize (N.valsTo regs given k).getD p false = x1 at *
          generalize (N.valsTo regs given k).getD q false = x2 at *
          cases x1 <;> cases x2
          all_goals
            simp only [Bool.and_self, Bool.and_true, Bool.and_false, Bool.true_and, Bool.false_and, Bool.or_self, Bool.or_true, Bool.or_false, Bool.true_or, Bool.false_or, bne_self_eq_false, Bool.bne_true, Bool.bne_false, Bool.not_true, Bool.not_false, bne] at VAL
            go_wp2_with (at_builtin; refine push_g _ w1 (wr.alloc _) _ (World.size_alloc _ _) rfl _ _ 45 rfl 4 i0 (.bool false) 1 1 Tryd.underlying45 hi hz0 hz1 hz2 rfl (by decide) w1.heap.size _ _ _ rfl (HOW.out.alloc _) 1 1 _ rfl rfl rfl rfl ?c3 ?c4 (HBL.out.alloc hsz _) (Nat.le_refl _) (le_alloc' hsz _) ?_)
            case c3 => unfold maxLen; omega
            case c4 => omega
            intro v' w3 hown3 hbel3 _ _
            have HO3 := hid hown3
            have HB3 := hid hbel3
            clear hown3 hbel3 HOW HBL
            go_wp2
            go_roundw
            case rel => exact ⟨k + 1, by omega, by go_num, row_next HO3.out (by rw [HSUCC.out, VAL.out] <;> rfl), HB3.out⟩
            case measure => simp [intOf]; omega
        · have VAL : Hid (valOf ⟨7, (p : Int), (q : Int), xn⟩ reg given (N.valsTo regs given k) = ((N.valsTo regs given k).getD p false != (N.valsTo regs given k).getD q false)) := by unfold Hid; simp [valOf]
          generalize (N.valsTo regs given k).getD p false = x1 at *
          generalize (N.valsTo regs given k).getD q false = x2 at *
          cases x1 <;> cases x2
          all_goals
            simp only [Bool.and_self, Bool.and_true, Bool.and_false, Bool.true_and, Bool.false_and, Bool.or_self, Bool.or_true, Bool.or_false, Bool.true_or, Bool.false_or, bne_self_eq_false, Bool.bne_true, Bool.bne_false, Bool.not_true, Bool.not_false, bne] at VAL
            go_wp2_with fail
            go_region
            go_wp2_with (at_builtin; refine push_g _ w1 (wr.alloc _).drew _ (World.size_alloc _ _) rfl _ _ 45 rfl 4 i0 (.bool false) 1 1 Tryd.underlying45 hi hz0 hz1 hz2 rfl (by decide) w1.heap.size _ _ _ rfl (row_drew (HOW.out.alloc _)) 1 1 _ rfl rfl rfl rfl ?c3 ?c4 (HBL.out.alloc hsz _).drew (Nat.le_refl _) (le_alloc' hsz _) ?_)
            case c3 => unfold maxLen; omega
            case c4 => omega
            intro v' w3 hown3 hbel3 _ _
            have HO3 := hid hown3
            have HB3 := hid hbel3
            clear hown3 hbel3 HOW HBL
            go_wp2
            go_roundw
            case rel => exact ⟨k + 1, by omega, by go_num, row_next HO3.out (by rw [HSUCC.out, VAL.out] <;> rfl), HB3.out⟩
            case measure => simp [intOf]; omega
      · obtain ⟨p, rfl⟩ := Int.eq_ofNat_of_zero_le ha0
        obtain ⟨bv, ov, rfl, hbv, hvc⟩ := HVC.out.at (by omega)
        have u1 := hvc p (by omega)
        have hpn : (p : Int) < k := by omega
        clear hvc
        have VAL : Hid (valOf ⟨8, (p : Int), xb, xn⟩ reg given (N.valsTo regs given k) = !((N.valsTo regs given k).getD p false)) := by unfold Hid; simp [valOf]
        generalize (N.valsTo regs given k).getD p false = x1 at *
        go_wp2_with (at_builtin; refine push_g _ w1 (wr.alloc _) _ (World.size_alloc _ _) rfl _ _ 45 rfl 4 i0 (.bool false) 1 1 Tryd.underlying45 hi hz0 hz1 hz2 rfl (by decide) w1.heap.size _ _ _ rfl (HOW.out.alloc _) 1 1 _ rfl rfl rfl rfl ?c3 ?c4 (HBL.out.alloc hsz _) (Nat.le_refl _) (le_alloc' hsz _) ?_)
        case c3 => unfold maxLen; omega
        case c4 => omega
        intro v' w3 hown3 hbel3 _ _
        have HO3 := hid hown3
        have HB3 := hid hbel3
        clear hown3 hbel3 HOW HBL
        go_wp2
        go_roundw
        case rel => exact ⟨k + 1, by omega, by go_num, row_next HO3.out (by rw [HSUCC.out, VAL.out] <;> rfl), HB3.out⟩
        case measure => simp [intOf]; omega
    · obtain rfl : k = n := by omega
      have hval : N.valsTo regs given k = N.vals regs given := by unfold Net.vals; rw [HN.out]
      rw [hval] at hown
      obtain ⟨av, cv, rfl, hvc⟩ := row_bits hown
      obtain ⟨vals, hvals⟩ : ∃ vals, N.vals regs given = vals := ⟨_, rfl⟩
      rw [hvals] at hvc
      have HVALS := hid hvals
      have HVC := hid hvc
      have HBL := hid hbel
      have HRG2 := hid (HRG.out.stay hbel hbs1)
      have HI2 := hid (HI.out.stay (hbel.mono hle1))
      have hbsr : bs < wr.heap.size := by omega
      clear hown hbel hvals hval hvc
      obtain ⟨w2, rfl⟩ : ∃ wo : World, wo = wr := ⟨_, rfl⟩
      obtain ⟨D0, hD0, hRD0⟩ := HRG2.out
      rw [HN.out] at hRD0
      have hszD := ownsMap_size hD0
      have HRD0 := hid hRD0
      have e1 : (w2.alloc (.map #[] 0)).heap.size = w2.heap.size + 1 := by simp
      clear hRD0 HRG2
      go_wp2_with (first
        | (at_range; refine wpList_range_own _ rfl _ 43 rfl 3 4 Tryd.intKey Tryd.underlying43 _ bs m _ rfl (hD0.alloc _) ?_; intro w0 hrg0 hg0 hs0)
        | go_in)
      go_frame
      rw [e1] at hrg0 hs0 ⊢
      have HOM := hid (((World.ownsMap_made (H := Unit) w2 Tryd.prog 3 (plainElem Tryd.prog 4)).kept hg0 (by simp)).mono (Nat.zero_le (Maps.size D0 - Maps.size D0)))
      have HB0 := hid (((Below.refl _ _).alloc (Nat.le_refl _) (.map #[] 0) : Below w2.heap.size w2 (w2.alloc (.map #[] 0))).grown hg0 (by simp) (fun j hj => by cases hj))
      clear hD0
      go_loopw [13] (fun _ wr => ∃ (left : Lit → Bool) (cnt : Nat) (Dout : DataW Unit), wr.ranges Tryd.prog 3 (plainElem Tryd.prog 4) bs (w2.heap.size + 1) m D0 left cnt ∧ cnt ≤ Maps.size D0 ∧
          wr.ownsMap Tryd.prog 3 (plainElem Tryd.prog 4) w2.heap.size (Maps.size D0 - cnt) Dout ∧ RegD (fun i => vals.getD (N.nodes.getD i GN.zero).next.toNat false) (fun x => has D0 x && !left x) Dout ∧ Below w2.heap.size w2 wr)
        (fun _ wr => wr.rangeLeft bs (w2.heap.size + 1))
      case atStart => exact ⟨_, _, .map [], hrg0, Nat.le_refl _, HOM.out, regD_start _ _, HB0.out⟩
      case round =>
        obtain ⟨left, cnt, Dout, hrg, hcs, hout, hA, hnx⟩ := hrel
        have HA := hid hA
        have HNX := hid hnx
        have hszr := hnx.size
        clear hA hnx hrg0 hg0 hs0 HOM HB0
        go_wp2_with (first
          | (at_next; refine next_key _ rfl _ rfl 3 _ Tryd.intKey Tryd.underlying3 bs (w2.heap.size + 1) m _ _ _ rfl hrg ?_ ?_)
          | go_in)
        · intro hc0 hl0
          subst hc0
          have HMAP := hid (show Regs wr w2.heap.size N.nodes (fun i => (N.regs' regs given).getD i false) m from ⟨Dout, hout.mono (by omega), by rw [HN.out]; exact regD_done HA.out HRD0.out.1 hl0 (fun i hi h4 => by rw [N.regs'_at regs given HRL.out i (by rw [HN.out]; exact hi) h4, HVALS.out])⟩)
          have HI5 := hid (HI2.out.stay (HNX.out.mono (by omega)))
          clear hrg hcs hout HA
          obtain ⟨w5, rfl⟩ : ∃ wo : World, wo = wr := ⟨_, rfl⟩
          have hbs5 : w2.heap.size < w5.heap.size := by obtain ⟨D, h1, _⟩ := HMAP.out; exact h1.lt
          have ho5 := HI5.out.outs
          rw [HN'.out] at ho5
          have HRO := hid HI5.out.ro
          go_wp2_with fail
          clear ho5
          go_loopw [14, 123] (fun o v wr3 => ∃ j : Nat, j ≤ n' ∧ v = .int .i64 j ∧ wr3.ownsRow w5.heap.size 4 1 o j (((N.outs.take j).map fun z => vals.getD z.toNat false).map .bool) ∧ Below w5.heap.size w5 wr3) (fun _ v _ => n' - (intOf v).toNat)
          case atStart => exact ⟨0, Nat.zero_le _, rfl, World.ownsRow_nil _ _ _ _, Below.refl _ _⟩
          case round =>
            obtain ⟨j, hj, rfl, hown, hbel⟩ := hrel
            obtain ⟨wr3, rfl⟩ : ∃ wo : World, wo = wr := ⟨_, rfl⟩
            by_cases hjlt : j < n'
            · obtain ⟨b1, off, rfl, hb1, hcell⟩ := HRO.out.at (by rw [HN'.out]; omega)
              have hc := (hbel.cell (p := ⟨b1, off + j, none⟩) (by show b1 < _; omega)).trans (hcell j (by rw [HN'.out]; exact hjlt))
              have hz := N.out_at HRR.out (k := j) (by rw [HN'.out]; exact hjlt)
              rw [HN.out] at hz
              have htake : N.outs.take (j + 1) = N.outs.take j ++ [N.outs.getD j 0] := by
                have hl : j < N.outs.length := by rw [HN'.out]; exact hjlt
                rw [List.take_succ_eq_append_getElem hl]
                simp [List.getD_eq_getElem?_getD, hl]
              obtain ⟨z, hzz⟩ : ∃ z, N.outs.getD j 0 = z := ⟨_, rfl⟩
              rw [hzz] at hc hz htake
              have HT := hid htake
              obtain ⟨hz0', hz1'⟩ := hz
              obtain ⟨p, rfl⟩ := Int.eq_ofNat_of_zero_le hz0'
              obtain ⟨bv, ov, rfl, hbv, hvc⟩ := HVC.out.at (by omega)
              have u1 := (hbel.cell (p := ⟨bv, ov + p, none⟩) (by show bv < _; omega)).trans ((HNX.out.cell (p := ⟨bv, ov + p, none⟩) hbv).trans (hvc p (by omega)))
              have hjI : (j : Int) < n' := by omega
              have hj0 : (0 : Int) ≤ j := by omega
              have hpI : (p : Int) < k := by omega
              have hsz3 := hbel.size
              have HO := hid hown
              have HB := hid hbel
              obtain ⟨bv', hbv'⟩ : ∃ bv', vals.getD p false = bv' := ⟨_, rfl⟩
              rw [hbv'] at u1
              have HBV := hid hbv'
              clear hcell htake hzz hbel hbv' hown hvc
              go_wp2_with (at_builtin; refine wpList_push _ w5 wr3 rfl _ _ 45 rfl 4 i0 (.bool false) 1 1 Tryd.underlying45 hi hz0 hz1 hz2 rfl (by decide) w5.heap.size _ _ _ rfl HO.out 1 1 _ rfl rfl rfl rfl ?c3 ?c4 HB.out (Nat.le_refl _) hsz3 ?_)
              case c3 => unfold maxLen; omega
              case c4 => omega
              intro v' w6 hown' hbel' _ _
              have HO2 := hid hown'
              have HB2 := hid hbel'
              clear hown' hbel' HO HB
              go_wp2
              go_roundw
              case rel =>
                refine ⟨j + 1, by omega, by go_num, ?_, HB2.out⟩
                rw [HT.out, List.map_append, List.map_append]
                have e : [(p : Int)].map (fun z => vals.getD z.toNat false) = [bv'] := by
                  simp only [List.map_cons, List.map_nil, Int.toNat_natCast]
                  rw [HBV.out]
                rw [e]
                simpa using HO2.out
              case measure => simp [intOf]; omega
            · obtain rfl : j = n' := by omega
              have HO := hid hown
              have HB := hid hbel
              clear hown hbel
              go_wp2
              go_ret2
              refine ⟨_, _, rfl, ?_, by omega, HMAP.out.stay HB.out (by omega), HB1.out.trans ((HBL.out.trans ((HNX.out.trans (HB.out.mono hszr)).mono (by omega))).mono (by omega))⟩
              have e : N.outVals regs given = (N.outs.take j).map fun z => vals.getD z.toNat false := by
                unfold Net.outVals
                rw [HVALS.out, List.take_of_length_le (by rw [HN'.out]; exact Nat.le_refl _)]
              rw [e]
              exact ownsRow_base HO.out (by omega)
        · intro x xv w3 cnt1 hwx hlx h0 hrg1 hlt1' hg1 hs1 hen
          have hout1 := hout.kept hg1 (by simp)
          obtain ⟨p, rfl, hp, hp4⟩ := regKey_inv (by rw [← HRD0.out.1]; exact h0)
          have hbel3 : Below w2.heap.size w2 w3 := HNX.out.grown hg1 hszr (fun j hj => by cases hj; exact Nat.le_succ _)
          have h' := HI2.out.stay (hbel3.mono (by omega))
          obtain ⟨b1, off, rfl, hb1, c0, c1', c2, c3⟩ := h'.node p (by rw [HN.out]; exact hp)
          have hn3 := h'.nodes
          rw [HN.out] at hn3
          have hkind : nodeRight N.given N.nodes.length p (N.nodes.getD p GN.zero) = true := N.right_at HRR.out (by rw [HN.out]; exact hp)
          obtain ⟨y, hy⟩ : ∃ y, N.nodes.getD p GN.zero = y := ⟨_, rfl⟩
          have HY := hid hy
          rw [hy] at c0 c1' c2 c3 hkind hp4
          obtain ⟨op, xa, xb, xn⟩ := y
          simp only at c0 c1' c2 c3 hp4
          subst hp4
          have hxn : 0 ≤ xn ∧ xn < (N.nodes.length : Int) := by
            rcases node_kinds hkind with h | h | h | h | h | h <;> omega
          rw [HN.out] at hxn
          obtain ⟨q, rfl⟩ := Int.eq_ofNat_of_zero_le hxn.1
          obtain ⟨bv, ov, rfl, hbv, hvc⟩ := HVC.out.at (by omega)
          have u1 := (hbel3.cell (p := ⟨bv, ov + q, none⟩) hbv).trans (hvc q (by omega))
          obtain ⟨nv, hnv⟩ : ∃ nv, vals.getD q false = nv := ⟨_, rfl⟩
          rw [hnv] at u1
          have HNV := hid hnv
          have hpI : (p : Int) < k := by omega
          have hp0 : (0 : Int) ≤ p := by omega
          have hqI : (q : Int) < k := by omega
          have H0 := hid h0
          have HB3 := hid hbel3
          clear hvc h' hkind hy hnv h0 hbel3 hxn c0 c1' c2
          go_wp2_with (first
            | (at_mapUpdate; refine wpList_mapUpdate_own _ rfl _ _ _ 43 rfl 3 4 Tryd.intKey Tryd.underlying43 _ w2.heap.size _ _ rfl hout1 (by unfold maxLen; omega) _ _ _ rfl rfl (keyOf_int_mk Tryd.underlying3 hwx) _ [] (plainElem_bool Tryd.underlying4 _) ?_; intro w4 hout2 hg2; go_frame)
            | go_in)
          have hrg2 := hrg1.kept hg2 (fun e => by have := Option.some.inj e; omega) (fun e => by have := Option.some.inj e; omega)
          go_roundw
          case rel =>
            exact ⟨_, cnt1, _, hrg2, by omega, hout2.mono (by omega), regD_step HA.out hout.isMap (by rw [HY.out]; exact HNV.out) H0.out, HB3.out.grown hg2 HB3.out.size (fun j hj => by cases hj; exact Nat.le_refl _)⟩
          case measure => rw [hrg2.left_eq, hrg.left_eq]; exact hlt1'
end
end Go.Proofs.YtlaeflpddehipaaDoor

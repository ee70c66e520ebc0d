/- image.number: a number's bytes, appended. -/
import Derived.Test.YtlaeflpddehipabDoorOpenAll
import Derived.Maps.AppendAt
import Derived.Deep.DeepCutAuto
set_option linter.unusedVariables false
namespace Go.Proofs.YtlaeflpddehipabDoor
open Go.RowKit

theorem Tryd.infoByte : (Tryd.prog.info? 5).map (fun i => (i.zero, i.size, i.bytes)) = some (some (.int .u8 0), 1, 1) := by kernel_rfl

/-- The bytes of a number. -/
def numTo : Nat → Nat → List Nat
  | 0, n => [n]
  | f + 1, n => if 128 ≤ n then (n % 128 + 128) :: numTo f (n / 128) else [n]
def numB (n : Nat) : List Nat := numTo 4 n
def byteV (n : Nat) : Value := .int .u8 n

/-- Bytes appended to a slice of the call's own: the new slice, and where it lies. -/
def Longer (w : World) (base : Nat) (v : Value) (m : Nat) (xs : List Value) (l : List Nat) (v' : Value) (w' : World) : Prop :=
  w'.ownsRow base 5 1 v' (m + l.length) (xs ++ l.map byteV) ∧ w.grownBy w' v.ownBlock ∧ (v'.ownBlock = v.ownBlock ∨ ∃ k, v'.ownBlock = some k ∧ w.heap.size ≤ k)
theorem Longer.none {w : World} {base : Nat} {v : Value} {m : Nat} {xs : List Value} (h : w.ownsRow base 5 1 v m xs) : Longer w base v m xs [] v w :=
  ⟨by simpa using h, ⟨rfl, rfl, rfl, Nat.le_refl _, fun _ _ _ => rfl⟩, .inl rfl⟩
theorem Longer.then {w w1 w2 : World} {base m : Nat} {v v1 v2 : Value} {xs : List Value} {l l' : List Nat} (h : Longer w base v m xs l v1 w1) (h' : Longer w1 base v1 (m + l.length) (xs ++ l.map byteV) l' v2 w2) : Longer w base v m xs (l ++ l') v2 w2 := by
  obtain ⟨_, g1, b1⟩ := h
  obtain ⟨o2, g2, b2⟩ := h'
  refine ⟨?_, ?_, ?_⟩
  · rw [List.map_append, ← List.append_assoc, List.length_append, ← Nat.add_assoc]; exact o2
  · refine ⟨g2.os.trans g1.os, g2.tape.trans g1.tape, g2.output.trans g1.output, Nat.le_trans g1.size g2.size, fun k hk hne => ?_⟩
    refine (g2.block k (Nat.lt_of_lt_of_le hk g1.size) ?_).trans (g1.block k hk hne)
    intro e
    rcases b1 with b1 | ⟨j, b1, hj⟩
    · exact hne (by rw [e, b1])
    · rw [b1] at e
      cases e
      omega
  · rcases b2 with b2 | ⟨k, b2, hk⟩
    · rcases b1 with b1 | ⟨j, b1, hj⟩
      · exact .inl (b2.trans b1)
      · exact .inr ⟨j, b2.trans b1, hj⟩
    · exact .inr ⟨k, b2, Nat.le_trans g1.size hk⟩
/-- Behind a new block (and a draw). -/
theorem Longer.over {w w1 : World} {base m : Nat} {v v1 : Value} {xs : List Value} {l : List Nat} {W : World} (hb : Below w.heap.size w W) (h : Longer W base v m xs l v1 w1) : Longer w base v m xs l v1 w1 := by
  obtain ⟨o, g, b⟩ := h
  refine ⟨o, ⟨g.os.trans hb.os, g.tape.trans hb.tape, g.output.trans hb.output, Nat.le_trans hb.size g.size, fun k hk hne => (g.block k (Nat.lt_of_lt_of_le hk hb.size) hne).trans (hb.block k hk)⟩, ?_⟩
  rcases b with b | ⟨k, b, hk⟩
  · exact .inl b
  · exact .inr ⟨k, b, Nat.le_trans hb.size hk⟩

/-- 'b = append(b, x)': one byte. -/
theorem wpList_byte {P : Program} {ops : Array Oper} {rest : List Oper} {o : Oper} {a : Act} {Q : Exit → Act → World → Prop} (W wr : World) (hgd : o.guard = none) (s x : Operand) (t : TypeId)
    (ho : o.op = .call { callee := .builtin .append, args := #[s, x], argTypes := #[t, t] })
    (i : TypeInfo) (ht : P.underlying t = some (.slice 5)) (hi : P.info? 5 = some i) (hz : i.zero = some (.int .u8 0)) (hsize : i.size = 1) (hby : i.bytes = 1)
    (base : Nat) (v : Value) (n : Nat) (xs : List Value) (hs : a.eval s = v) (hown : wr.ownsRow base 5 1 v n xs)
    (c : Nat) (z : Int) (hW : W = wr.alloc (.cells #[.int .u8 z] 5)) (hx : a.eval x = .slice (some ⟨wr.heap.size, 0, none⟩) 1 c) (k : Nat) (hk : z = k) (hn : n ≤ 1000000000) (hbase : base ≤ wr.heap.size)
    (h : ∀ av cv w', Hid (Longer wr base v n xs [k] (.slice av (n + 1) cv) w') → wpList P ops Q rest (a.put o.dst (.slice av (n + 1) cv)) w') :
    wpList P ops Q (o :: rest) a W := by
  subst hW
  subst hk
  refine wpList_append_own_at _ hgd s x t ho base 5 i (.int .u8 0) 1 1 ht hi hz hsize hby rfl (by omega) v n xs hs (hown.alloc _) ⟨wr.heap.size, 0, none⟩ 1 c [.int .u8 k] hx rfl ?_ (by intro u hu; simp at hu; subst hu; rfl) (by unfold maxLen; omega) (by omega) (by rw [World.size_alloc]; omega) ?_
  · intro j u hj
    rw [Addr.add_at, cell_new]
    simpa using hj
  · intro v' w' h2 h3 _ h5
    obtain ⟨av, cv, rfl⟩ : ∃ a c, v' = .slice a (n + 1) c := by
      rcases h2.2 with ⟨rfl, h0⟩ | ⟨g, cap, cur, rfl, _⟩
      · omega
      · exact ⟨_, _, rfl⟩
    refine h av cv w' (Longer.over ((Below.refl _ _).alloc (Nat.le_refl _) _) ⟨h2, h3, ?_⟩)
    rcases h5 with h5 | h5
    · exact .inl h5
    · exact .inr ⟨_, h5, Nat.le_refl _⟩

theorem or_byte : ∀ x : Fin 128, bits .or .u8 (x.val : Int) 128 = ((x.val + 128 : Nat) : Int) := by decide +kernel
theorem low_byte (r : Nat) : bits .or .u8 (bits .and .i64 (r : Int) 127 % 256) 128 = ((r % 128 + 128 : Nat) : Int) := by
  have h := and_mask (r : Int) 7 (by omega)
  have e : (2 : Int) ^ 7 - 1 = 127 := by decide
  have e2 : (2 : Int) ^ 7 = 128 := by decide
  rw [e, e2] at h
  rw [h]
  have h3 : (r : Int) % 128 % 256 = ((r % 128 : Nat) : Int) := by omega
  rw [h3]
  exact or_byte ⟨r % 128, Nat.mod_lt _ (by omega)⟩
theorem numTo_big (f r : Nat) (h : 128 ≤ r) : numTo (f + 1) r = (r % 128 + 128) :: numTo f (r / 128) := by
  rw [numTo, if_pos h]
theorem numTo_low (f r : Nat) (h : r < 128) : numTo f r = [r] := by
  cases f with
  | zero => rfl
  | succ f => rw [numTo, if_neg (by omega)]
theorem numTo_len (f n : Nat) : 1 ≤ (numTo f n).length ∧ (numTo f n).length ≤ f + 1 := by
  induction f generalizing n with
  | zero => simp [numTo]
  | succ f ih =>
    unfold numTo
    split
    · have := ih (n / 128)
      simp
      omega
    · simp

set_option maxHeartbeats 800000 in
theorem number_any (base : Nat) (v : Value) (m : Nat) (xs : List Value) (n : Nat) (hn : n < 34359738368) (w : World) (hown : w.ownsRow base 5 1 v m xs) (hm : m ≤ 100000000) (hbase : base ≤ w.heap.size) :
    Calls Tryd.prog 41 #[v, .int .i64 n] w fun e w' => ∃ av cv, e = .returned (.slice av (m + (numB n).length) cv) ∧ Longer w base v m xs (numB n) (.slice av (m + (numB n).length) cv) w' := by
  obtain ⟨i0, hi, hz0, hz1, hz2⟩ := info_parts Tryd.infoByte
  have HOWN := hid hown
  clear hown
  go_enter Tryd.func41, Tryd.ntmps41
  go_wp2
  go_loopw [0, 1] (fun s0 s1 wr => ∃ (f r : Nat) (l : List Nat), f ≤ 4 ∧ r < 128 ^ (f + 1) ∧ l.length + f = 4 ∧ s1 = .int .i64 r ∧ l ++ numTo f r = numB n ∧ Longer w base v m xs l s0 wr) (fun _ s1 _ => (intOf s1).toNat)
  case atStart => exact ⟨4, n, [], Nat.le_refl _, hn, rfl, rfl, rfl, Longer.none HOWN.out⟩
  case round =>
    obtain ⟨f, r, l, hf, hr, hl, rfl, hnum, hlon⟩ := hrel
    have HN := hid hnum
    have HL := hid hlon
    have hr5 : r < 34359738368 := Nat.lt_of_lt_of_le hr (Nat.pow_le_pow_right (by omega) (by omega : f + 1 ≤ 5))
    have HR := hid hr
    have HF := hid hl
    clear hnum hlon hr hl
    by_cases h128 : 128 ≤ r
    · have h128I : (128 : Int) ≤ (r : Int) := by omega
      have hf1 : 1 ≤ f := by
        rcases Nat.eq_zero_or_pos f with h0 | h0
        · have := HR.out
          rw [h0] at this
          omega
        · exact h0
      obtain ⟨f', rfl⟩ : ∃ f', f = f' + 1 := ⟨f - 1, by omega⟩
      have hll : l.length ≤ 4 := by have := HF.out; omega
      have hbr : base ≤ wr.heap.size := Nat.le_trans hbase HL.out.2.1.size
      go_wp2_with (at_builtin; refine wpList_byte _ wr rfl _ _ 93 rfl i0 Tryd.underlying93 hi hz0 hz1 hz2 base _ (m + l.length) (xs ++ l.map byteV) rfl HL.out.1 1 _ rfl rfl (r % 128 + 128) (low_byte r) ?_ hbr ?_)
      focus omega
      intro av cv w' HLL
      go_wp2_with fail
      go_roundw
      case rel =>
        refine ⟨f', r / 128, l ++ [r % 128 + 128], by omega, ?_, ?_, ?_, ?_, ?_⟩
        · have := HR.out
          rw [Nat.pow_succ] at this
          exact Nat.div_lt_of_lt_mul (by rw [Nat.mul_comm]; exact this)
        · have := HF.out
          simp
          omega
        · first | rfl | go_num
        · have := HN.out
          rw [numTo_big _ _ h128] at this
          rw [List.append_assoc]
          exact this
        · exact HL.out.then HLL.out
      case measure => simp [intOf]; omega
    · have h128I : ¬ (128 : Int) ≤ (r : Int) := by omega
      have hll : l.length ≤ 4 := by have := HF.out; omega
      have hbr : base ≤ wr.heap.size := Nat.le_trans hbase HL.out.2.1.size
      go_wp2_with (at_builtin; refine wpList_byte _ wr rfl _ _ 93 rfl i0 Tryd.underlying93 hi hz0 hz1 hz2 base _ (m + l.length) (xs ++ l.map byteV) rfl HL.out.1 1 _ rfl rfl r rfl ?_ hbr ?_)
      focus omega
      intro av cv w' HLL
      go_wp2_with fail
      go_ret
      have h := HL.out.then HLL.out
      have hn2 := HN.out
      rw [numTo_low _ _ (by omega)] at hn2
      have hlen : m + (numB n).length = m + l.length + 1 := by rw [← hn2]; simp; omega
      rw [hlen]
      refine ⟨av, cv, rfl, ?_⟩
      rw [← hn2]
      exact h
end Go.Proofs.YtlaeflpddehipabDoor

/- GateJoins: what is needed of memory, and the long and the wrong cases. -/
import Derived.Test.YtlaeflpddehipaaBesideMem
set_option linter.unusedVariables false
namespace Go.Proofs.Ytlaeflpddehipaa
open Go.RowKit

/-- 'append(out, src...)': out is the call's own, src whatever slice whose cells are known (nil too). -/
theorem wpList_src {P : Program} {ops : Array Oper} {rest : List Oper} {o : Oper} {a : Act} {Q : Exit → Act → World → Prop} (w : World) (hgd : o.guard = none) (s x : Operand) (t : TypeId)
    (ho : o.op = .call { callee := .builtin .append, args := #[s, x], argTypes := #[t, t] })
    (base : Nat) (e : TypeId) (i : TypeInfo) (z : Value) (size bytes : Nat) (ht : P.underlying t = some (.slice e)) (hi : P.info? e = some i) (hz : i.zero = some z)
    (hsize : i.size = size) (hby : i.bytes = bytes) (hzs : z.cells.size = size) (hsz : 0 < size)
    (v : Value) (n : Nat) (xs : List Value) (hs : a.eval s = v) (hown : w.ownsRow base e size v n xs)
    (ad : Option Addr) (m c : Nat) (news : List Value) (hx : a.eval x = .slice ad m c) (hnil : ad = none → m = 0 ∧ c = 0) (hl : news.length = m * size) (hnews : ∀ ad', ad = some ad' → ∀ j u, news[j]? = some u → w.cell? (ad'.add j) = some u) (h1 : ∀ u ∈ news, u.oneCell' = true)
    (h63 : n + m ≤ maxLen) (hbytes : (n + m) * bytes ≤ 140737488355328) (hbase : base ≤ w.heap.size)
    (h : ∀ av cv w', Hid (w.ownsRow base e size v n xs) → Hid (w'.ownsRow base e size (.slice av (n + m) cv) (n + m) (xs ++ news)) → Hid (w.grownBy w' v.ownBlock) → wpList P ops Q rest (a.put o.dst (.slice av (n + m) cv)) w') : wpList P ops Q (o :: rest) a w := by
  cases ad with
  | none =>
    obtain ⟨rfl, rfl⟩ := hnil rfl
    have hn : news = [] := List.eq_nil_of_length_eq_zero (by simpa using hl)
    subst hn
    refine wpList_append_own_none hgd s x t ho base e i size ht hi v n xs hs hown hx ?_
    have h' := hown
    obtain ⟨av, cv, rfl⟩ := owns_slice hown
    exact h av cv w h' (by simpa [Hid] using h') ⟨rfl, rfl, rfl, Nat.le_refl _, fun _ _ _ => rfl⟩
  | some ad' =>
    exact wpList_append_own _ hgd s x t ho base e i z size bytes ht hi hz hsize hby hzs hsz v n xs hs hown ad' m c news hx hl (hnews ad' rfl) h1 h63 hbytes hbase fun v' w' h2 h3 _ => (by
      obtain ⟨av, cv, rfl⟩ := owns_slice h2
      exact h av cv w' hown h2 h3)

theorem owns_take {w : World} {base e n c k : Nat} {a : Option Addr} {l : List Bool} (h : w.ownsRow base e 1 (.slice a n c) n (l.map .bool)) (hk : k ≤ n) : w.ownsRow base e 1 (.slice a k c) k ((l.take k).map .bool) := by
  have hl := owns_len h
  rw [List.length_map] at hl
  refine ⟨by simp; omega, ?_⟩
  rcases h.2 with ⟨h0, h1⟩ | ⟨g, cap, cur, h0, h1, h2, h3, h4, h5, h6⟩
  · left
    have : k = 0 := by omega
    subst this
    simp only [Value.slice.injEq] at h0
    obtain ⟨rfl, _, rfl⟩ := h0
    exact ⟨rfl, rfl⟩
  · right
    simp only [Value.slice.injEq, true_and] at h0
    obtain ⟨rfl, rfl⟩ := h0
    refine ⟨g, c, cur, rfl, h1, h2, by omega, h4, h5, ?_⟩
    rw [List.map_take, ← h6, List.take_take]
    congr 1
    omega
theorem owns_cap {w : World} {base e size n c : Nat} {a : Option Addr} {xs : List Value} (h : w.ownsRow base e size (.slice a n c) n xs) : n ≤ c ∧ c ≤ maxLen := by
  obtain ⟨a1, c1, e1, h1, h2, _⟩ := Cells.of_owns h
  cases e1
  exact ⟨h1, h2⟩
theorem owns_nil {w : World} {base e size n c : Nat} {a : Option Addr} {xs : List Value} (h : w.ownsRow base e size (.slice a n c) n xs) : a = none → n = 0 ∧ c = 0 := by
  rintro rfl
  rcases h.2 with ⟨h0, h1⟩ | ⟨g, cap, cur, h0, _⟩
  · simp only [Value.slice.injEq, true_and] at h0; exact ⟨h1, h0.2⟩
  · cases h0
/-- The cells of a row of the call's own, to be appended to another. -/
theorem owns_news {w w' : World} {base n c : Nat} {a : Option Addr} {l : List Bool} (h : w.ownsRow base 4 1 (.slice a n c) n (l.map .bool)) (hb : ∀ k, w.heap[k]? ≠ none → a.map Addr.block = some k → w'.heap[k]? = w.heap[k]?) :
    ∀ ad', a = some ad' → ∀ j u, (l.map Value.bool)[j]? = some u → w'.cell? (ad'.add j) = some u := by
  rintro ad' rfl j u hj
  have hl := owns_len h
  rw [List.length_map] at hl
  have hc := (bits_cells h).news (xs := l.map Value.bool) (by simpa using hl) (fun j hj => by simp [List.getD_eq_getElem?_getD, hl, hj]) j u hj
  rw [← hc]
  refine World.cell?_of_block ?_
  have hbl : (ad'.add j).block = ad'.block := by unfold Addr.add; split <;> rfl
  rw [hbl]
  refine hb _ ?_ rfl
  rcases h.2 with ⟨h0, h1⟩ | ⟨g, cap, cur, h0, _, h2, _⟩
  · cases h0
  · simp only [Value.slice.injEq, Option.some.injEq] at h0
    obtain ⟨rfl, _⟩ := h0
    rw [h2]
    simp

/-- Two boxes of the call's own, and what was there. -/
structure Boxes (w : World) (x y : Array Value) (w' : World) : Prop where
  x : w'.heap[w.heap.size]? = some (.cells x 48 (0, 0))
  y : w'.heap[w.heap.size + 1]? = some (.cells y 48 (0, 0))
  b : Below w.heap.size w w'
theorem Boxes.first (w : World) (x y : Array Value) : Boxes w x y ((w.alloc (.cells x 48)).alloc (.cells y 48)) :=
  ⟨box_under _ (box_top _ _ _), (by have h := box_top (w.alloc (.cells x 48)) y 48; rw [World.size_alloc] at h; exact h), ((Below.refl _ _).alloc (Nat.le_refl _) _).alloc (by simp) _⟩
theorem Boxes.size {w w' : World} {x y : Array Value} (h : Boxes w x y w') : w.heap.size + 2 ≤ w'.heap.size := by
  have := lt_of_block h.y
  omega
theorem Boxes.next {w w1 w2 : World} {x y : Array Value} (h : Boxes w x y w1) (hb : Below w1.heap.size w1 w2) : Boxes w x y w2 :=
  ⟨(hb.block _ (lt_of_block h.x)).trans h.x, (hb.block _ (lt_of_block h.y)).trans h.y, h.b.trans (hb.mono h.b.size)⟩
theorem Boxes.netN {B : Nat} {w w' : World} {a : Option Addr} {c : Nat} {a' : Option Addr} {c' : Nat} {N : Net} {y : Array Value} (h : Boxes w (netVal a c a' c' N) y w') (hN : NetRows B w a c a' c' N) (hB : B ≤ w.heap.size) : NetIn (w.heap.size + 2) w' w.heap.size a c a' c' N :=
  hN.box hB h.x h.b _ (by omega) (by omega)
theorem Boxes.netM {B : Nat} {w w' : World} {a : Option Addr} {c : Nat} {a' : Option Addr} {c' : Nat} {N : Net} {x : Array Value} (h : Boxes w x (netVal a c a' c' N) w') (hN : NetRows B w a c a' c' N) (hB : B ≤ w.heap.size) : NetIn (w.heap.size + 2) w' (w.heap.size + 1) a c a' c' N :=
  hN.box hB h.y h.b _ (by omega) (by omega)
theorem Boxes.cy {w w' : World} {x y : Array Value} (h : Boxes w x y w') (j : Nat) : w'.cell? ⟨w.heap.size + 1, j, none⟩ = y[j]? := cell_block h.y j
theorem Boxes.cx {w w' : World} {x y : Array Value} (h : Boxes w x y w') (j : Nat) : w'.cell? ⟨w.heap.size, j, none⟩ = x[j]? := cell_block h.x j

theorem small_at (a : Option Addr) (c : Nat) (a' : Option Addr) (c' : Nat) (N : Net) (r : Bool) (h : Hid (N.small = r)) (w : World) :
    Calls Try.prog 28 #[.agg #[.int .i64 N.given, .slice a N.nodes.length c, .slice a' N.outs.length c']] w (Tells r w) := small_is a c a' c' N r h w

section
variable (a : Option Addr) (c : Nat) (a' : Option Addr) (c' : Nat) (N : Net) (b : Option Addr) (d : Nat) (b' : Option Addr) (d' : Nat) (M : Net) (ag : Option Addr) (ng cg : Nat) (ao : Option Addr) (no co : Nat)

/-- Not held: true. -/
theorem joins_long (h : N.small = false ∨ M.small = false ∨ 20 < ng ∨ 20 < no) (w : World) :
    Calls Try.prog 7 #[.agg #[.int .i64 N.given, .slice a N.nodes.length c, .slice a' N.outs.length c'], .agg #[.int .i64 M.given, .slice b M.nodes.length d, .slice b' M.outs.length d'], .slice ag ng cg, .slice ao no co] w (Yes w) := by
  have HK0 := hid (Boxes.first w (netVal a c a' c' N) (netVal b d b' d' M))
  cases hs : N.small
  · have HS := hid hs
    clear h hs
    go_enter Try.func7, Try.ntmps7
    go_wp2_with (go_at_call 28; (with_reducible refine (small_at a c a' c' N _ HS _).mono ?_); rintro e w1 ⟨rfl, hbel⟩; have HK1 := hid (HK0.out.next hbel); clear hbel)
    go_ret
    exact ⟨rfl, HK1.out.b⟩
  · have HS := hid hs
    cases hs' : M.small
    · have HS' := hid hs'
      clear h hs hs'
      go_enter Try.func7, Try.ntmps7
      go_wp2_with (first
        | (go_at_call 28; (with_reducible refine (small_at a c a' c' N _ HS _).mono ?_); rintro e w1 ⟨rfl, hbel⟩; have HK1 := hid (HK0.out.next hbel); have y0 := HK1.out.cy 0; have y1 := HK1.out.cy 1; have y2 := HK1.out.cy 2; simp only [netVal, List.getElem?_toArray, List.getElem?_cons_succ, List.getElem?_cons_zero] at y0 y1 y2; clear hbel HK0)
        | (go_at_call 28; (with_reducible refine (small_at b d b' d' M _ HS' _).mono ?_); rintro e w2 ⟨rfl, hbel⟩; have HK2 := hid (HK1.out.next hbel); clear hbel))
      go_ret
      exact ⟨rfl, HK2.out.b⟩
    · have HS' := hid hs'
      by_cases h1 : 20 < ng
      · have h1' : (20 : Int) < ng := by omega
        clear h hs hs'
        go_enter Try.func7, Try.ntmps7
        go_wp2_with (first
          | (go_at_call 28; (with_reducible refine (small_at a c a' c' N _ HS _).mono ?_); rintro e w1 ⟨rfl, hbel⟩; have HK1 := hid (HK0.out.next hbel); have y0 := HK1.out.cy 0; have y1 := HK1.out.cy 1; have y2 := HK1.out.cy 2; simp only [netVal, List.getElem?_toArray, List.getElem?_cons_succ, List.getElem?_cons_zero] at y0 y1 y2; clear hbel HK0)
          | (go_at_call 28; (with_reducible refine (small_at b d b' d' M _ HS' _).mono ?_); rintro e w2 ⟨rfl, hbel⟩; have HK2 := hid (HK1.out.next hbel); clear hbel))
        go_ret
        exact ⟨rfl, HK2.out.b⟩
      · have h1' : decide ((20 : Int) < ng) = false := decide_eq_false (by omega)
        have h2 : (20 : Int) < no := by rcases h with h | h | h | h <;> simp_all <;> omega
        clear h hs hs' h1
        go_enter Try.func7, Try.ntmps7
        go_wp2_with (first
          | (go_at_call 28; (with_reducible refine (small_at a c a' c' N _ HS _).mono ?_); rintro e w1 ⟨rfl, hbel⟩; have HK1 := hid (HK0.out.next hbel); have y0 := HK1.out.cy 0; have y1 := HK1.out.cy 1; have y2 := HK1.out.cy 2; simp only [netVal, List.getElem?_toArray, List.getElem?_cons_succ, List.getElem?_cons_zero] at y0 y1 y2; clear hbel HK0)
          | (go_at_call 28; (with_reducible refine (small_at b d b' d' M _ HS' _).mono ?_); rintro e w2 ⟨rfl, hbel⟩; have HK2 := hid (HK1.out.next hbel); clear hbel))
        go_ret
        exact ⟨rfl, HK2.out.b⟩
end

/-- What is given to both, one behind the other. -/
def joinGiven (g : List Bool) (G : Nat) (o : List Bool) : List Bool := (g ++ List.replicate G false).take G ++ o

/-- Where nothing below K has changed. -/
theorem SimOk.under {B K : Nat} {w w' : World} {b : Nat} {a : Option Addr} {c : Nat} {a' : Option Addr} {c' : Nat} {N : Net} {s r : Nat} {regs : List Bool} (h : SimOk B w b a c a' c' N s r regs) (hs : s < K) (hr : r < K) (hB : B ≤ K) (hb : Below K w w') : SimOk B w' b a c a' c' N s r regs :=
  ⟨h.net.stay (hb.mono hB), h.right, ⟨(hb.block s hs).trans h.sim.1, h.sim.2.keep (hb.block r hr)⟩, h.len, h.bs, h.br, h.sr, Nat.le_trans h.bw hb.size⟩
/-- A row of bits that lies elsewhere. -/
theorem owns_far {w w' : World} {base e size n K : Nat} {v v' : Value} {xs : List Value} (h : w.ownsRow base e size v n xs) (hg : w.grownBy w' v'.ownBlock) (hv : ∀ k, v'.ownBlock = some k → k < K) (hK : K ≤ base) : w'.ownsRow base e size v n xs :=
  owns_keep h fun k hk => hg.block k (h.lt k hk).2 (fun e' => by have := hv k e'.symm; have := (h.lt k hk).1; omega)
theorem join_row {w : World} {base e n : Nat} {v : Value} {g o : List Bool} {G : Nat} (h : w.ownsRow base e 1 v n (List.take G (g.map .bool ++ List.replicate G (.bool false)) ++ o.map .bool)) : w.ownsRow base e 1 v n ((joinGiven g G o).map .bool) := by
  unfold joinGiven
  rw [List.map_append, List.map_take, List.map_append, List.map_replicate]
  exact h
theorem two_rows {w : World} {base e n : Nat} {v : Value} {x y : List Bool} (h : w.ownsRow base e 1 v n (([] ++ x.map .bool) ++ y.map .bool)) : w.ownsRow base e 1 v n ((x ++ y).map .bool) := by
  rw [List.map_append]
  exact h
theorem two_rows0 {w : World} {base e n : Nat} {v : Value} {x y : List Bool} (h : w.ownsRow base e 1 v n (x.map .bool ++ y.map .bool)) : w.ownsRow base e 1 v n ((x ++ y).map .bool) := by
  rw [List.map_append]
  exact h
theorem row_one {w : World} {base e n c : Nat} {a : Option Addr} {x : List Bool} (h : w.ownsRow base e 1 (.slice a (0 + n) c) (0 + n) ([] ++ x.map .bool)) : w.ownsRow base e 1 (.slice a n c) n (x.map .bool) := by
  simp only [Nat.zero_add, List.nil_append] at h
  exact h

theorem joinGiven_first (g : List Bool) (G : Nat) (o : List Bool) (a : Nat) (h : a < G) : (joinGiven g G o).getD a false = g.getD a false := by
  unfold joinGiven
  rw [getD_append_left _ _ _ (by simp; omega), ← pad_given g G a]
  simp only [List.getD_eq_getElem?_getD, List.getElem?_take, if_pos h]
theorem joinGiven_len (g : List Bool) (G : Nat) (o : List Bool) : (joinGiven g G o).length = G + o.length := by simp [joinGiven]
theorem joinGiven_then (g : List Bool) (G : Nat) (o : List Bool) (a : Nat) : (joinGiven g G o).getD (a + G) false = o.getD a false := by
  unfold joinGiven
  have h := getD_append_right ((g ++ List.replicate G false).take G) o a
  have hl : ((g ++ List.replicate G false).take G).length = G := by simp
  rw [hl] at h
  rw [Nat.add_comm]
  exact h
end Go.Proofs.Ytlaeflpddehipaa

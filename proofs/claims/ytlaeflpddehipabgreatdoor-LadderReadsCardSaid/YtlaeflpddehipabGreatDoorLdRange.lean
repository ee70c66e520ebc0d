/- A range over SplitSeq whose body may panic, in a function that is known. -/
import Derived.RangeFuncOwn
import Derived.OrdersIn
import Derived.Test.YtlaeflpddehipabGreatDoorLdSeq
import Derived.Test.YtlaeflpddehipabGreatDoorEnds
set_option linter.unusedVariables false
set_option linter.unusedSimpArgs false
namespace Go.Proofs.YtlaeflpddehipabGreatDoor
open Go.RowKit

section
variable {f0 : FuncId} {P : Program} {Q : Exit → Act → World → Prop} {a : Act} {w : World} {n : Nat}
/-- The walk of code in an activation of function f0. -/
def wpAt (f0 : FuncId) (P : Program) (c : Code) (Q : Exit → Act → World → Prop) (a : Act) (w : World) : Prop :=
  ∀ (b : Frame) (k : List Item) (cs : List Frame), b.fn = f0 → b.roundOf = none →
    ∃ e a' w', Q e a' w' ∧ ArrivesIn (Machine.fenced P Fence.wide) P (lone (b.atR a (.code c :: k)) cs w) b k cs e a' w'
theorem wpAt_of {c : Code} (h : c.wp P Q a w) : wpAt f0 P c Q a w := fun b k cs _ hr => (wpIn_wide (n := 0)).2 h b k cs hr trivial (room_wide _)
theorem wpAt_mono {c : Code} {Q' : Exit → Act → World → Prop} (h : wpAt f0 P c Q a w) (hq : ∀ e a w, Q e a w → Q' e a w) : wpAt f0 P c Q' a w :=
  fun b k cs hb hr => let ⟨e, a', w', q, r⟩ := h b k cs hb hr; ⟨e, a', w', hq _ _ _ q, r⟩
theorem wpAt_seq {x y : Code} (h : wpAt f0 P x (Exit.then (wpAt f0 P y Q) Q) a w) : wpAt f0 P (Code.seq x y) Q a w := by
  intro b k cs hb hro
  have h0 : (lone (b.atR a (.code (.seq x y) :: k)) cs w).fenced P Fence.wide := fenced_wide _ _
  obtain ⟨e, a₁, w₁, hq, harr⟩ := h b (.code y :: k) cs hb hro
  cases e with
  | normal =>
    obtain ⟨e₂, a₂, w₂, hq₂, harr₂⟩ := hq b k cs hb hro
    exact ⟨e₂, a₂, w₂, hq₂, .of_steps (.head h0 stepR_seq harr) harr₂⟩
  | exit id => exact ⟨_, a₁, w₁, hq, .of_steps (.one h0 stepR_seq) (.pass (x := .code y) rfl (fun _ _ => .inl (by simp)) harr)⟩
  | goto l => exact ⟨_, a₁, w₁, hq, .of_steps (.one h0 stepR_seq) (.pass (x := .code y) rfl (fun _ _ => .inl (by simp)) harr)⟩
  | ret => exact ⟨_, a₁, w₁, hq, .of_steps (.one h0 stepR_seq) (.pass (x := .code y) rfl (fun _ _ => .inl (by simp)) harr)⟩
  | panic ch => exact ⟨_, a₁, w₁, hq, .of_steps (.one h0 stepR_seq) (.pass (x := .code y) rfl (fun _ _ => .inl (by simp)) harr)⟩
  | outgrown => exact ⟨_, a₁, w₁, hq, .of_steps (.one h0 stepR_seq) (.pass (x := .code y) rfl (fun _ _ => .inl (by simp)) harr)⟩
theorem wpAt_block {id : Nat} {c : Code} (h : wpAt f0 P c (Exit.inBlock id Q) a w) : wpAt f0 P (Code.block id c) Q a w := by
  intro b k cs hb hro
  have h0 : (lone (b.atR a (.code (.block id c) :: k)) cs w).fenced P Fence.wide := fenced_wide _ _
  obtain ⟨e, a₁, w₁, hq, harr⟩ := h b (.inBlock id :: k) cs hb hro
  cases e with
  | normal => exact ⟨.normal, a₁, w₁, hq, .head h0 stepR_block (StepsIn.trans harr (.one (fenced_wide _ _) stepR_inBlock))⟩
  | exit id' =>
    by_cases hid : id' = id
    · simp only [Exit.inBlock, hid, if_true] at hq
      exact ⟨.normal, a₁, w₁, hq, .head h0 stepR_block (harr.1 k (by simp [exitTo, hid]))⟩
    · simp only [Exit.inBlock, hid, if_false] at hq
      have this : (id == id') = false := by simp; exact fun h => hid h.symm
      have hx : exitTo id' (.inBlock id :: k) = exitTo id' k := by simp [exitTo, this]
      exact ⟨.exit id', a₁, w₁, hq, fun k' hk => .head h0 stepR_block (harr.1 k' (by rw [hx]; exact hk)),
        fun hr' hk => let ⟨k₁, h1, h2⟩ := harr.2 hr' (by rw [hx]; exact hk); ⟨k₁, h1, .head h0 stepR_block h2⟩⟩
  | goto l =>
    have hx : gotoIn l (.inBlock id :: k) = gotoIn l k := by simp [gotoIn]
    exact ⟨_, a₁, w₁, hq, fun k' hk => .head h0 stepR_block (harr.1 k' (by rw [hx]; exact hk)),
      fun hr' hk => let ⟨k₁, h1, h2⟩ := harr.2 hr' (by rw [hx]; exact hk); ⟨k₁, h1, .head h0 stepR_block h2⟩⟩
  | ret => exact ⟨_, a₁, w₁, hq, .of_steps (.one h0 stepR_block) harr⟩
  | panic ch => exact ⟨_, a₁, w₁, hq, .of_steps (.one h0 stepR_block) harr⟩
  | outgrown => exact ⟨_, a₁, w₁, hq, .of_steps (.one h0 stepR_block) harr⟩
/-- What is asked behind the function that was ranged over: no jump is left. -/
def rangePostA (P : Program) (l : Nat) (Q : Exit → Act → World → Prop) (a' : Act) : Ending → World → Prop
  | .returned _, w₃ => ∃ w₄, (Instr.endLoop l).run P w₃ = .ok none w₄ ∧ Q .normal a' w₄
  | .panicked chain, w₃ => Q (.panic chain) a' w₃
  | .outgrown, _ => False
theorem wpAt_rangeFunc {g : Operand} {ps : Array Tmp} {assign body : Code}
    (h : ∃ (l : Nat) (mark : List Deferred) (w₁ : World) (d : Deferred) (w₁' : World) (f : FuncId) (args : Array Value) (w₂ : World),
      (Instr.enterLoop f0 a.tmps ps assign body none).run P w = .ok (l, mark) w₁ ∧
      (resolve a.eval (rangeCall g l) 0).run P w₁ = .ok d w₁' ∧
      (invoke d.target d.args).run P w₁' = .ok (.enter f args) w₂ ∧
      CallsIn Fence.wide n P f args w₂ (rangePostA P l Q { a with defers := mark ++ a.defers })) :
    wpAt f0 P (Code.rangeFunc g ps assign body) Q a w := by
  intro b k cs hb hro
  obtain ⟨l, mark, w₁, d, w₁', f, args, w₂, he, hres, hinv, hF, hcall⟩ := h
  rw [← hro, ← hb] at he
  have h0 : (lone (b.atR a (.code (.rangeFunc g ps assign body) :: k)) cs w).fenced P Fence.wide := fenced_wide _ _
  have henter := stepR_rangeFunc (P := P) (b := b) (a := a) (k := k) (cs := cs) (w := w) he hres hinv
  obtain ⟨e, w₃, fr, hR, hsteps, hfn, hleave⟩ := hcall (b.atR { a with defers := mark ++ a.defers } (.inRangeFunc l :: k) :: cs) (room_wide _)
  cases e with
  | outgrown => exact hR.elim
  | returned v =>
    have hl : (lone fr (b.atR { a with defers := mark ++ a.defers } (.inRangeFunc l :: k) :: cs) w₃).fenced P Fence.wide := fenced_wide _ _
    obtain ⟨w₄, hend, hj⟩ := hR
    have sback : StepsIn (Machine.fenced P Fence.wide) P (lone (b.atR a (.code (.rangeFunc g ps assign body) :: k)) cs w) (lone (b.atR { a with defers := mark ++ a.defers } k) cs w₄) := by
      refine .head h0 henter (StepsIn.trans hsteps (.head hl ?_ (.one (fenced_wide _ _) (stepR_endRangeFunc hend))))
      rw [← finish_atR_inRangeFunc l v]; exact step_leave_returned hleave
    exact ⟨.normal, _, w₄, hj, sback⟩
  | panicked chain =>
    have hl : (lone fr (b.atR { a with defers := mark ++ a.defers } (.inRangeFunc l :: k) :: cs) w₃).fenced P Fence.wide := fenced_wide _ _
    refine ⟨.panic chain, _, w₃, hR, .inRangeFunc l :: k, .head h0 henter (StepsIn.trans hsteps (.one hl ?_))⟩
    rw [← Frame.raise_atR]; exact step_leave_panicked hleave
theorem calls_of_wpAt {fn : Func} {c : Code} {args : Array Value} {R : Ending → World → Prop}
    (hf : P.funcs[f0]? = some fn) (hb : fn.body = some c)
    (h : wpAt f0 P c (bodyPostM Fence.wide n P fn R) { tmps := args ++ Array.replicate (fn.ntmps - args.size) undef, defers := [] } w) : Calls P f0 args w R := by
  refine (callsIn_wide (n := n)).1 ⟨trivial, fun cs hr => ?_⟩
  let b : Frame := { (default : Frame) with fn := f0, kind := .normal, roundOf := none }
  have henter : Frame.enter P f0 args .normal =
      b.atR { tmps := args ++ Array.replicate (fn.ntmps - args.size) undef, defers := [] } [.code c] := by
    simp [Frame.enter, Frame.atR, hf, hb, b]
  obtain ⟨e, a', w', hq, harr⟩ := h b [] cs rfl rfl
  rw [← henter] at harr
  cases e with
  | normal =>
    obtain ⟨e', w'', fr', hR, hs, hfn, hl⟩ := leaves_stepsInM a'.defers .returning w' { b.atR a' [] with mode := .returning } cs rfl rfl rfl hf rfl trivial hr hq
    exact ⟨e', w'', fr', hR, ComesIn.of_steps (StepsIn.trans harr (.one (fenced_wide _ _) (stepR_end rfl))) hs, hfn, hl⟩
  | ret =>
    obtain ⟨todo, hs₀⟩ := harr.1 rfl
    obtain ⟨e', w'', fr', hR, hs, hfn, hl⟩ := leaves_stepsInM a'.defers .returning w' { b.atR a' todo with mode := .returning } cs rfl rfl rfl hf rfl trivial hr hq
    exact ⟨e', w'', fr', hR, ComesIn.of_steps hs₀ hs, hfn, hl⟩
  | panic chain =>
    obtain ⟨todo, hs₀⟩ := harr
    obtain ⟨e', w'', fr', hR, hs, hfn, hl⟩ := leaves_stepsInM a'.defers (.panicking chain) w' { b.atR a' todo with mode := .panicking chain } cs rfl rfl rfl hf rfl trivial hr hq
    exact ⟨e', w'', fr', hR, ComesIn.of_steps hs₀ hs, hfn, hl⟩
  | exit id => exact hq.elim
  | goto l => exact hq.elim
  | outgrown => exact ⟨.outgrown, w', b, hq, harr.resolve_left (by simp [b]), rfl, trivial⟩
/-- In a round an operation that defers nothing goes as anywhere. -/
theorem wpOp_round {l i : Nat} {ops : Array Oper} {K : Act → World → Prop} (hd : ∀ (j : Nat) (o : Oper), ops[j]? = some o → ∀ c, o.op ≠ .defer c) (hQ : ¬ LetsOut Q) (h : wpOp P ops Q i K a w) : wpOpIn (Fence.wide.inRound l) n P ops Q i K a w := by
  unfold wpOp at h
  unfold wpOpIn
  cases ho : ops[i]? with
  | none => rw [ho] at h; exact h
  | some o =>
    rw [ho] at h
    simp only at h ⊢
    split
    · rename_i hw
      rw [if_pos hw] at h
      rcases h with h | ⟨_, h⟩
      · refine ⟨fun _ _ => trivial, ?_⟩
        rw [Oper.semAt_eq _ _ _ (hd i o ho)]
        unfold Oper.wp at h
        generalize (execOp a.eval o).run P w = r at h ⊢
        cases r with
        | ok x w' =>
          cases x <;> simp only [Oper.upon] at h <;> simp only [Oper.uponIn] <;>
            first
              | exact h
              | exact h.elim
              | exact ⟨fun h => (by cases h), CallsIn.mono (callsIn_wide.2 h) (fun e w'' he => by cases e <;> exact he)⟩
              | exact ⟨fun h => (by cases h), fun c cs _ => let ⟨v, w', r, s⟩ := h c cs; ⟨v, w', r, stepsIn_wide.2 s⟩⟩
        | halt x w' => cases x <;> simp only [Oper.upon] at h <;> simp only [Oper.uponIn] <;> first | exact h | exact h.elim
      · exact absurd h hQ
    · rename_i hw
      rw [if_neg hw] at h
      exact ⟨fun _ _ => trivial, h⟩
theorem wpAny_round {l : Nat} {md : Region.Mode} {ops : Array Oper} (hd : ∀ (j : Nat) (o : Oper), ops[j]? = some o → ∀ c, o.op ≠ .defer c) (hQ : ¬ LetsOut Q) : ∀ (fuel : Nat) (li : Array Bool) (a : Act) (w : World), wpAny P md ops Q fuel li a w → wpAnyIn (Fence.wide.inRound l) n P md ops Q fuel li a w
  | 0, li, a, w, h => h
  | fuel + 1, li, a, w, h => ⟨h.1, fun i hi => wpOpIn_mono (fun a w => wpAny_round hd hQ fuel _ a w) (wpOp_round hd hQ (h.2 i hi))⟩
/-- A region that draws its order, in a round. -/
theorem wpEnds.beginR {ops : Array Oper} {id l : Nat} (S : World → Prop) (L : Nat) (hd : ∀ (j : Nat) (o : Oper), ops[j]? = some o → ∀ c, o.op ≠ .defer c) (hQ : ¬ LetsOut Q) (hm : P.follows .mixedOrders = true) (hS : S w.drew) (h : S w.drew → wpEnds P .any ops Q S L ops.size (Array.replicate ops.size false) a w.drew) : (Code.region id ops true).wpIn (Fence.wide.inRound l) n P Q a w :=
  wpIn_region_any hm (wpAny_round hd hQ _ _ _ _ (wpEnds.any (h hS)))
end
/-- How a round's body is left. -/
def bodyPostR (PJ : World → Prop) (PB : List PanicEntry → World → Prop) (W2 : World) : Exit → Act → World → Prop
  | .normal, _, W3 => KeepsOthers W2 W3 ∧ PJ W3
  | .panic c, a3, W3 => a3.defers = [] ∧ KeepsOthers W2 W3 ∧ PB c W3
  | _, _, _ => False
theorem range_split {f0 : FuncId} {fd : Func} (hfd : Tryz.prog.funcs[f0]? = some fd) {g : Operand} {ps : Array Tmp} {assign body : Code} {Q : Exit → Act → World → Prop} {a : Act} {w : World} {n : Nat} (bSep bS bSv : Nat) (s0 : Bs) (hps : ps.size = 1)
    (hg : a.eval g = .func (.func 65) #[] #[.pointer (some ⟨bSep, 0, none⟩), .pointer (some ⟨bS, 0, none⟩), .pointer (some ⟨bSv, 0, none⟩)])
    (PJ : List Bs → Bs → World → Prop) (PB : List PanicEntry → World → Prop)
    (hbox : ∀ ls sb W, PJ ls sb W → SeqBox bSep bS bSv sb W)
    (hset : ∀ ls sb sb' W, PJ ls sb W → sb'.length ≤ 1000000 → PJ ls sb' (W.setCell ⟨bS, 0, none⟩ (st sb')))
    (hobj : ∀ ls sb W o', PJ ls sb W → PJ ls sb (W.putObj (w.heap.size + 1) o'))
    (hal : ∀ ls sb W o, PJ ls sb W → PJ ls sb (W.alloc o))
    (h0 : PJ (splitLn s0) s0 w)
    (hround : ∀ l x ls sb W, PJ (x :: ls) sb W → w.heap.size + 2 ≤ W.heap.size → assign.wpIn (Fence.wide.inRound l) n Tryz.prog (Exit.then (fun a₁ w₁ => w₁ = W ∧ ∀ W2, PJ (x :: ls) sb W2 → w.heap.size + 2 ≤ W2.heap.size → body.wpIn (Fence.wide.inRound l) n Tryz.prog (bodyPostR (PJ ls sb) PB W2) a₁ W2) (fun _ _ _ => False))
      { tmps := (ps.zip #[st x]).foldl (fun t (p, v) => t.setIfInBounds p v) a.tmps, defers := [] } W)
    (hdone : ∀ D sb W, PJ [] sb W → D = w.heap.size → W.heap[D]? = some (.deferred (some [])) → Q .normal { a with defers := { target := .collected D, args := #[] } :: a.defers } W)
    (hpanic : ∀ D c W, PB c W → D = w.heap.size → W.heap[D]? = some (.deferred (some [])) → Q (.panic c) { a with defers := { target := .collected D, args := #[] } :: a.defers } W) :
    wpAt f0 Tryz.prog (Code.rangeFunc g ps assign body) Q a w := by
  obtain ⟨rec, hrec⟩ : ∃ rec : LoopState → Loop, rec = fun st => { state := st, pending := none, fn := f0, tmps := a.tmps, params := ps, assign, body, defers := w.heap.size } := ⟨_, rfl⟩
  obtain ⟨W1, hW1⟩ : ∃ W1, (w.alloc (.deferred (some []))).alloc (.loop (rec .ready)) = W1 := ⟨_, rfl⟩
  have hl1 : W1.heap[w.heap.size + 1]? = some (.loop (rec .ready)) := by
    rw [← hW1]
    have := World.alloc_heap_new (w.alloc (.deferred (some []))) (.loop (rec .ready))
    rwa [World.size_alloc] at this
  have hk1 : W1.heap[w.heap.size]? = some (.deferred (some [])) := by
    rw [← hW1]
    exact (Below.heap_alloc _ _ _ (by simp)).trans (World.alloc_heap_new w _)
  have hj1 : PJ (splitLn s0) s0 W1 := by rw [← hW1]; exact hal _ _ _ _ (hal _ _ _ _ h0)
  refine wpAt_rangeFunc (n := n + 1) ⟨w.heap.size + 1, [{ target := .collected w.heap.size, args := #[] }], W1, { target := .fn (.func 65) #[.pointer (some ⟨bSep, 0, none⟩), .pointer (some ⟨bS, 0, none⟩), .pointer (some ⟨bSv, 0, none⟩)], args := #[.func (.yield (w.heap.size + 1)) #[] #[]] }, W1, 65,
    #[.func (.yield (w.heap.size + 1)) #[] #[]] ++ #[.pointer (some ⟨bSep, 0, none⟩), .pointer (some ⟨bS, 0, none⟩), .pointer (some ⟨bSv, 0, none⟩)], W1, ?_, ?_, ?_, ?_⟩
  · rw [← hW1, hrec]; exact run_enterLoop_outer _ _ _ _ _
  · simp only [resolve, hg]
    simp [go_sem]
  · exact enters_of Tryz.func65 (by kernel_rfl) rfl _ _
  · have hcl : ∀ ls sb W, PJ ls sb W → ∀ (k : Nat) (o : Obj), W.heap[k]? = some o → o.isCells = false → k ≠ bS := fun ls sb W h k o hk ho e => by
      subst e
      rw [(hbox _ _ _ h).s] at hk
      cases hk
      cases ho
    refine (seq_any (n + 1) (w.heap.size + 1) bSep bS bSv
      (fun ls sb W => PJ ls sb W ∧ W.heap[w.heap.size + 1]? = some (.loop (rec .ready)) ∧ W.heap[w.heap.size]? = some (.deferred (some [])))
      (fun c W => PB c W ∧ W.heap[w.heap.size]? = some (.deferred (some [])))
      (fun ls sb W h => hbox _ _ _ h.1)
      (fun ls sb sb' W h hl => ⟨hset _ _ _ _ h.1 hl, (heap_setCell_other _ _ _ _ (fun e => hcl _ _ _ h.1 _ _ h.2.1 rfl e)).trans h.2.1, (heap_setCell_other _ _ _ _ (fun e => hcl _ _ _ h.1 _ _ h.2.2 rfl e)).trans h.2.2⟩)
      ?_ s0 W1 ⟨hj1, hl1, hk1⟩).mono ?_
    · rintro x ls sb W ⟨hj, hl, hk⟩
      have hy := run_yield (P := Tryz.prog) (args := #[st x]) hl (by rw [hrec]; exact hps.symm)
      refine ⟨_, _, _, _, hy, roundIn_of_wpInP trivial (by rw [hrec]; exact hfd) ?_⟩
      rw [hrec]
      have hlt0 : w.heap.size + 1 < W.heap.size := (Array.getElem?_eq_some_iff.1 hl).1
      refine wpIn_mono (hround _ x ls sb W hj (by omega)) ?_
      rintro e a₁ w₁ h
      cases e with
      | normal =>
        obtain ⟨rfl, h⟩ := h
        have hlt : w.heap.size + 1 < w₁.heap.size := (Array.getElem?_eq_some_iff.1 hl).1
        refine ⟨_, run_beginRound hl (by rw [hrec]), ?_⟩
        have hl2 : (w₁.putObj (w.heap.size + 1) (.loop { rec .ready with state := .busy })).heap[w.heap.size + 1]? = some (.loop { rec .ready with state := .busy }) := World.putObj_heap_same hlt
        have hk2 : (w₁.putObj (w.heap.size + 1) (.loop { rec .ready with state := .busy })).heap[w.heap.size]? = some (.deferred (some [])) := (World.putObj_heap_other (by omega)).trans hk
        refine wpIn_mono (h _ (hobj _ _ _ _ hj) (by rw [World.putObj_size]; omega)) ?_
        rintro e a₃ W₃ hp
        cases e with
        | normal =>
          obtain ⟨hk3, hj3⟩ := hp
          have hl3 := hk3.same _ _ hl2 rfl
          have hr := run_endRound (P := Tryz.prog) none hl3
          refine ⟨_, _, hr, .inl ⟨rfl, hobj _ _ _ _ hj3, ?_, (World.putObj_heap_other (by omega)).trans (hk3.same _ _ hk2 rfl)⟩⟩
          rw [hrec]
          exact World.putObj_heap_same (Array.getElem?_eq_some_iff.1 hl3).1
        | panic c =>
          obtain ⟨hd, hk3, hp⟩ := hp
          exact ⟨hd, .inr ⟨c, rfl, hp, hk3.same _ _ hk2 rfl⟩⟩
        | ret => exact hp.elim
        | exit id => exact hp.elim
        | goto t => exact hp.elim
        | outgrown => exact hp.elim
      | ret => exact h.elim
      | exit id => exact h.elim
      | goto t => exact h.elim
      | panic c => exact h.elim
      | outgrown => exact h.elim
    · rintro e W2 (⟨v, rfl, sb, hj, hl, hk⟩ | ⟨c, rfl, hp, hk⟩)
      · have hend := run_endLoop (P := Tryz.prog) hl (by rw [hrec]; simp)
        have hpn : (rec .ready).pending = none := by rw [hrec]
        rw [hpn] at hend
        refine ⟨_, hend, ?_⟩
        exact hdone _ sb _ (hobj _ _ _ _ hj) rfl ((World.putObj_heap_other (by omega)).trans hk)
      · exact hpanic _ c _ hp rfl hk
end Go.Proofs.YtlaeflpddehipabGreatDoor

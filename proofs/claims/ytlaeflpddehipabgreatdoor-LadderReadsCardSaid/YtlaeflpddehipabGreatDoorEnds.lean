/- A region that draws its order and whose last operation writes what it has read: loads may be taken first if what they read stands till the last operation. -/
import Derived.Test.YtlaeflpddehipabGreatDoorRegion
set_option linter.unusedVariables false
namespace Go.Proofs.YtlaeflpddehipabGreatDoor
open Go.RowKit

section
variable {P : Program} {ops : Array Oper} {Q : Exit → Act → World → Prop} {md : Region.Mode} {S : World → Prop} {L : Nat}

theorem getD_both {l : Array Bool} {i : Nat} (h0 : l.getD i true = false) (h1 : l.getD i false = true) : False := by
  unfold Array.getD at h0 h1
  split at h0
  · rename_i hlt
    rw [dif_pos hlt] at h1
    rw [h0] at h1
    cases h1
  · cases h0
/-- Whatever is listed, what it waits for is listed. -/
def ClosedUp (md : Region.Mode) (ops : Array Oper) (l : Array Bool) : Prop := ∀ j o, ops[j]? = some o → l.getD j false = true → ∀ e ∈ o.after, Region.binds md e = true → l.getD e.on false = true
def closedB (md : Region.Mode) (ops : Array Oper) (l : Array Bool) : Bool :=
  (List.range ops.size).all fun j => !(l.getD j false) || ((ops[j]?).map (·.after.all fun e => !Region.binds md e || l.getD e.on false)).getD true
theorem closedB_is {l : Array Bool} (h : closedB md ops l = true) : ClosedUp md ops l := by
  intro j o hj hl e he hb
  unfold closedB at h
  rw [List.all_eq_true] at h
  have hlt : j < ops.size := by
    rcases Nat.lt_or_ge j ops.size with h' | h'
    · exact h'
    · rw [Array.getElem?_eq_none h'] at hj; cases hj
  have h1 := h j (List.mem_range.2 hlt)
  rw [hl, hj] at h1
  simp only [Bool.not_true, Bool.false_or, Option.map_some, Option.getD_some, Array.all_eq_true_iff_forall_mem] at h1
  have h2 := h1 e he
  rw [hb] at h2
  exact h2
theorem ClosedUp.set {l : Array Bool} {k : Nat} (h : ClosedUp md ops l) (hk : k ∈ Region.ready md ops l) : ClosedUp md ops (l.setIfInBounds k true) := by
  intro j o hj hl e he hb
  apply getD_set_true
  by_cases hkj : k = j
  · subst hkj
    obtain ⟨_, o', ho', hall⟩ := mem_ready.1 hk
    rw [hj] at ho'
    cases ho'
    exact hall e he hb
  · refine h j o hj ?_ e he hb
    rwa [getD_set_ne false hkj] at hl
/-- Operation j waits for operation i, by n steps at most. -/
def waitsB (md : Region.Mode) (ops : Array Oper) : Nat → Nat → Nat → Bool
  | 0, _, _ => false
  | n + 1, j, i => ((ops[j]?).map (·.after.any fun e => Region.binds md e && (e.on == i || waitsB md ops n e.on i))).getD false
theorem waits_listed {l : Array Bool} (h : ClosedUp md ops l) {i : Nat} (n : Nat) : ∀ j, waitsB md ops n j i = true → (∀ o, ops[j]? = some o → ∀ e ∈ o.after, Region.binds md e = true → l.getD e.on false = true) → l.getD i false = true := by
  induction n with
  | zero => intro j hw; cases hw
  | succ n ih =>
    intro j hw hj
    unfold waitsB at hw
    cases ho : ops[j]? with
    | none => rw [ho] at hw; cases hw
    | some o =>
      rw [ho] at hw
      simp only [Option.map_some, Option.getD_some, Array.any_eq_true', Bool.and_eq_true, Bool.or_eq_true] at hw
      obtain ⟨e, he, hb, hw⟩ := hw
      have hl := hj o ho e he hb
      rcases hw with hw | hw
      · have hei : e.on = i := by simpa using hw
        rw [← hei]; exact hl
      · exact ih e.on hw (fun o' ho' e' he' hb' => h e.on o' ho' hl e' he' hb')

/-- Whatever order is picked from here on; S holds behind each operation but L. -/
def wpEnds (P : Program) (md : Region.Mode) (ops : Array Oper) (Q : Exit → Act → World → Prop) (S : World → Prop) (L : Nat) : Nat → Array Bool → Act → World → Prop
  | 0, l, a, w => Region.ready md ops l = [] ∧ Q .normal a w
  | n + 1, l, a, w => (Region.ready md ops l = [] → Q .normal a w) ∧ ∀ k ∈ Region.ready md ops l, wpOp P ops Q k (fun a' w' => (k ≠ L → S w') ∧ wpEnds P md ops Q S L n (l.setIfInBounds k true) a' w') a w

theorem wpEnds.any {n : Nat} : ∀ {l : Array Bool} {a : Act} {w : World}, wpEnds P md ops Q S L n l a w → wpAny P md ops Q n l a w := by
  induction n with
  | zero => intro l a w h; exact h
  | succ n ih => intro l a w h; exact ⟨h.1, fun k hk => wpOp_mono (fun a' w' h' => ih h'.2) (h.2 k hk)⟩

theorem ready_after {i j : Nat} {l : Array Bool} (hi : i ∈ Region.ready md ops l) {o : Oper} (hj : j ∈ Region.ready md ops l) (ho : ops[j]? = some o) : ∀ e ∈ o.after, Region.binds md e = true → e.on ≠ i := by
  intro e he hb hei
  obtain ⟨_, o', ho', hall⟩ := mem_ready.1 hj
  rw [ho] at ho'
  cases ho'
  have h1 := hall e he hb
  have h0 := (mem_ready.1 hi).1
  rw [hei] at h1
  exact getD_both h0 h1

/-- In state a, in every world that meets S, the operation leaves v and changes nothing; it may call what leaves the world alone. -/
def Calm (P : Program) (ops : Array Oper) (S : World → Prop) (o : Oper) (v : Value) (a : Act) : Prop :=
  (Region.wanted o (yielded ops a.tmps) = true ∧ ((∀ w, S w → (execOp a.eval o).run P w = .ok (.value v) w) ∨ ∀ w, S w → ∃ f args, (execOp a.eval o).run P w = .ok (.enter f args) w ∧ Calls P f args w fun e w' => e = .returned v ∧ w' = w)) ∨
  (Region.wanted o (yielded ops a.tmps) = false ∧ v = undef)
theorem Calm.same {o : Oper} {v : Value} {a a' : Act} (h : Calm P ops S o v a) (he : execOp a'.eval o = execOp a.eval o) (hw : Region.wanted o (yielded ops a'.tmps) = Region.wanted o (yielded ops a.tmps)) : Calm P ops S o v a' := by
  unfold Calm at *
  rw [he, hw]
  exact h
theorem Calm.op {i : Nat} {o : Oper} {v : Value} {a : Act} (hi : ops[i]? = some o) (h : Calm P ops S o v a) {K : Act → World → Prop} {w : World} (hS : S w) (hK : K (a.put o.dst v) w) : wpOp P ops Q i K a w := by
  unfold wpOp
  rw [hi]
  rcases h with ⟨hw, h | h⟩ | ⟨hw, rfl⟩
  · simp only [hw, if_true]
    refine .inl ?_
    unfold Oper.wp
    rw [h w hS]
    exact hK
  · simp only [hw, if_true]
    refine .inl ?_
    obtain ⟨f, args, hr, hc⟩ := h w hS
    unfold Oper.wp
    rw [hr]
    refine hc.mono ?_
    rintro e w' ⟨rfl, rfl⟩
    exact hK
  · simp only [hw]
    exact hK
/-- An operation beside it: whether v is already there makes no difference. -/
theorem Calm.past {j : Nat} {oi oj : Oper} {v : Value} (hj : ops[j]? = some oj) (hap : oi.apart ops oj = true) (hsi : ∀ cs b, oi.op ≠ .select cs b) (hsj : ∀ cs b, oj.op ≠ .select cs b)
    (hQ : ∀ c a w, Q (.panic c) (a.put oi.dst v) w → Q (.panic c) a w) {K : Act → World → Prop} {a : Act} {w : World} (hy : Calm P ops S oi v a) (h : wpOp P ops Q j K (a.put oi.dst v) w) :
    wpOp P ops Q j (fun a' w' => Calm P ops S oi v a' ∧ K (a'.put oi.dst v) w') a w := by
  obtain ⟨h1, h2, h3⟩ := Oper.apart_spec hap
  have keep : ∀ b : Act, Calm P ops S oi v b → ∀ u, Calm P ops S oi v (b.put oj.dst u) := fun b hb u => hb.same (execOp_put oi hsi b oj.dst u h3) (wanted_put oi b oj.dst u h3)
  unfold wpOp at *
  simp only [hj] at *
  rw [wanted_put oj a oi.dst v h1] at h
  by_cases hw : Region.wanted oj (yielded ops a.tmps) = true
  · simp only [hw, if_true] at h ⊢
    rcases h with h | ⟨hasks, hlets⟩
    · refine .inl ?_
      unfold Oper.wp at *
      rw [execOp_put oj hsj a oi.dst v h1] at h
      generalize (execOp a.eval oj).run P w = r at *
      cases r with
      | ok n w' =>
        cases n <;> simp only [Oper.upon] at h ⊢
        case value u => exact ⟨keep a hy u, by rw [← Act.put_comm a v u h2]; exact h⟩
        case skip => exact ⟨keep a hy _, by rw [← Act.put_comm a v undef h2]; exact h⟩
        case defer d =>
          refine ⟨keep _ (hy.same (a' := { a with defers := d :: a.defers }) rfl rfl) _, ?_⟩
          rw [← Act.put_comm _ v undef h2, ← Act.put_defers]
          exact h
        case enter f args =>
          refine Calls.mono h fun e w'' he => ?_
          cases e with
          | returned u => exact ⟨keep a hy u, by rw [← Act.put_comm a v u h2]; exact he⟩
          | panicked c => exact hQ _ _ _ he
          | outgrown => exact he
        case row row args => exact Rows.mono h fun u w'' he => ⟨keep a hy u, by rw [← Act.put_comm a v u h2]; exact he⟩
      | halt x w' =>
        cases x <;> simp only [Oper.upon] at h ⊢
        case panic u => exact hQ _ _ _ h
    · refine .inr ⟨?_, hlets⟩
      unfold Oper.asks at *
      rw [execOp_put oj hsj a oi.dst v h1] at hasks
      exact hasks
  · simp only [hw] at h ⊢
    exact ⟨keep a hy _, by rw [← Act.put_comm a v undef h2]; exact h⟩

theorem wpEnds.first {i m : Nat} {oi : Oper} {v : Value} (hi : ops[i]? = some oi) (hsel : ∀ (j : Nat) (o : Oper) cs b, ops[j]? = some o → o.op ≠ .select cs b) (hQ : ∀ c a w, Q (.panic c) (a.put oi.dst v) w → Q (.panic c) a w) (hL : waitsB md ops m L i = true) (n : Nat) :
    ∀ (l : Array Bool) (a : Act) (w : World), ClosedUp md ops l → (∀ j oj, ops[j]? = some oj → j ≠ i → l.getD j true = false → (∀ e ∈ oj.after, Region.binds md e = true → e.on ≠ i) → oi.apart ops oj = true) →
      i ∈ Region.ready md ops l → Calm P ops S oi v a → S w → wpEnds P md ops Q S L n (l.setIfInBounds i true) (a.put oi.dst v) w → wpEnds P md ops Q S L (n + 1) l a w := by
  induction n with
  | zero =>
    intro l a w hcl _ hr hy hS H
    refine ⟨fun h0 => absurd hr (by rw [h0]; simp), fun k hk => ?_⟩
    by_cases e : k = i
    · rw [e]; exact hy.op hi hS ⟨fun _ => hS, H⟩
    · have h := ready_mono hk e
      rw [H.1] at h
      cases h
  | succ n ih =>
    intro l a w hcl hfree hr hy hS H
    refine ⟨fun h0 => absurd hr (by rw [h0]; simp), fun k hk => ?_⟩
    by_cases e : k = i
    · rw [e]; exact hy.op hi hS ⟨fun _ => hS, H⟩
    · obtain ⟨hun, ok, hok, hall⟩ := mem_ready.1 hk
      have hkL : k ≠ L := by
        intro e2
        have h1 := waits_listed hcl m L hL (fun o ho e3 he hb => by rw [e2, ho] at hok; cases hok; exact hall e3 he hb)
        have h0 := (mem_ready.1 hr).1
        exact getD_both h0 h1
      have hrest := H.2 k (ready_mono hk e)
      have hstep := Calm.past hok (hfree k ok hok e hun (ready_after hr hk hok)) (fun cs b => hsel i oi cs b hi) (fun cs b => hsel k ok cs b hok) hQ hy hrest
      have hri := ready_mono hr (Ne.symm e)
      refine wpOp_mono (fun a' w' h3 => ?_) hstep
      have hcomm : (l.setIfInBounds i true).setIfInBounds k true = (l.setIfInBounds k true).setIfInBounds i true := Array.setIfInBounds_comm _ _ (fun h => e h.symm)
      rw [hcomm] at h3
      have hSw := h3.2.1 hkL
      refine ⟨fun _ => hSw, ih _ a' w' (hcl.set hk) ?_ hri h3.1 hSw h3.2.2⟩
      intro j oj hj hji hjun hno
      refine hfree j oj hj hji ?_ hno
      by_cases e2 : k = j
      · rw [← e2]; exact hun
      · rw [getD_set_ne true e2] at hjun; exact hjun

/-- Number i first. -/
theorem wpEnds.take (i m : Nat) {oi : Oper} {v : Value} {n : Nat} {l : Array Bool} {a : Act} {w : World} (hi : ops[i]? = some oi) (hs : Region.noSelect ops = true) (hL : waitsB md ops m L i = true) (hc : closedB md ops l = true) (hf : Region.free md ops l i = true) (hr : (Region.ready md ops l).contains i = true)
    (hQ : ∀ c a w, Q (.panic c) (a.put oi.dst v) w → Q (.panic c) a w) (hw : Region.wanted oi (yielded ops a.tmps) = true) (hS : S w) (hy : ∀ w', S w' → (execOp a.eval oi).run P w' = .ok (.value v) w') (h : wpEnds P md ops Q S L n (l.setIfInBounds i true) (a.put oi.dst v) w) : wpEnds P md ops Q S L (n + 1) l a w :=
  wpEnds.first hi (Region.noSelect_spec hs) hQ hL n l a w (closedB_is hc) (Region.free_spec hi hf) (by simpa using hr) (.inl ⟨hw, .inl hy⟩) hS h
/-- Number i first: a call that leaves the world alone. -/
theorem wpEnds.call (i m : Nat) {oi : Oper} {v : Value} {n : Nat} {l : Array Bool} {a : Act} {w : World} (hi : ops[i]? = some oi) (hs : Region.noSelect ops = true) (hL : waitsB md ops m L i = true) (hc : closedB md ops l = true) (hf : Region.free md ops l i = true) (hr : (Region.ready md ops l).contains i = true)
    (hQ : ∀ c a w, Q (.panic c) (a.put oi.dst v) w → Q (.panic c) a w) (hw : Region.wanted oi (yielded ops a.tmps) = true) (hS : S w) (f : FuncId) (args : Array Value) (he : ∀ w', S w' → (execOp a.eval oi).run P w' = .ok (.enter f args) w') (hy : ∀ w', S w' → Calls P f args w' fun e w'' => e = .returned v ∧ w'' = w') (h : wpEnds P md ops Q S L n (l.setIfInBounds i true) (a.put oi.dst v) w) : wpEnds P md ops Q S L (n + 1) l a w :=
  wpEnds.first hi (Region.noSelect_spec hs) hQ hL n l a w (closedB_is hc) (Region.free_spec hi hf) (by simpa using hr) (.inl ⟨hw, .inr fun w' hSw => ⟨f, args, he w' hSw, hy w' hSw⟩⟩) hS h
/-- Number i alone may come up. -/
theorem wpEnds.one (i : Nat) {o : Oper} {n : Nat} {l : Array Bool} {a : Act} {w : World} (hr : Region.ready md ops l = [i]) (ho : ops[i]? = some o)
    (h : ∀ K' : Act → World → Prop, Hid (∀ a w, S w → wpEnds P md ops Q S L n (l.setIfInBounds i true) a w → K' a w) → if Region.wanted o (yielded ops a.tmps) = true then Oper.wp P o a w K' Q else K' (a.put o.dst undef) w) : wpEnds P md ops Q S L (n + 1) l a w := by
  refine ⟨fun h0 => (by rw [h0] at hr; cases hr), fun k hk => ?_⟩
  rw [hr] at hk
  obtain rfl : k = i := by simpa using hk
  exact wpOp_step ho (fun K' hK => h K' (fun a w hS hW => hK a w ⟨fun _ => hS, hW⟩))
/-- The last. -/
theorem wpEnds.last (i : Nat) {o : Oper} {n : Nat} {l : Array Bool} {a : Act} {w : World} (hr : Region.ready md ops l = [i]) (hend : Region.ready md ops (l.setIfInBounds i true) = []) (ho : ops[i]? = some o)
    (h : ∀ K' : Act → World → Prop, Hid (∀ a w, Q .normal a w → K' a w) → if Region.wanted o (yielded ops a.tmps) = true then Oper.wp P o a w K' Q else K' (a.put o.dst undef) w) : wpEnds P md ops Q S i (n + 1) l a w := by
  refine ⟨fun h0 => (by rw [h0] at hr; cases hr), fun k hk => ?_⟩
  rw [hr] at hk
  obtain rfl : k = i := by simpa using hk
  refine wpOp_step ho (fun K' hK => h K' (fun a w hq => hK a w ⟨fun hne => absurd rfl hne, ?_⟩))
  cases n with
  | zero => exact ⟨hend, hq⟩
  | succ n => exact ⟨fun _ => hq, fun j hj => by rw [hend] at hj; cases hj⟩
/-- The beginning. -/
theorem wpEnds.begin {id : Nat} {a : Act} {w : World} (S : World → Prop) (L : Nat) (hm : P.follows .mixedOrders = true) (hS : S w.drew) (h : S w.drew → wpEnds P .any ops Q S L ops.size (Array.replicate ops.size false) a w.drew) : (Code.region id ops true).wp P Q a w :=
  wp_region_any hm (wpEnds.any (h hS))
end
end Go.Proofs.YtlaeflpddehipabGreatDoor

/- A cheaper test that a region's text is one of its orders, each operation apart from all that may go before it. -/
import Derived.Deep.Quiet
import Derived.KernelRfl
set_option linter.unusedVariables false
namespace Go.Proofs.YtlaeflpddehipabGreatDoor
open Go

def lexC (md : Region.Mode) (ops : Array Oper) : Nat → List Oper → Bool
  | _, [] => true
  | k, o :: rest => o.after.toList.all (fun e => !Region.binds md e || decide (e.on < k)) && (rest.all (fun oj => oj.after.toList.any (fun e => Region.binds md e && e.on == k) || o.apart ops oj) && lexC md ops (k + 1) rest)
theorem lexC_from (md : Region.Mode) (ops : Array Oper) : ∀ (l : List Oper) (k : Nat) (listed : Array Bool), (∀ j, l[j]? = ops[k + j]?) → (∀ j, j < ops.size → ∀ d, listed.getD j d = decide (j < k)) → listed.size = ops.size → k + l.length = ops.size → lexC md ops k l = true → Region.lexFrom md ops l.length k listed = true
  | [], k, listed, _, hl, hz, hk, _ => by
    simp only [List.length_nil, Nat.add_zero] at hk
    simp only [List.length_nil, Region.lexFrom, Region.ready, List.isEmpty_iff, List.filter_eq_nil_iff, List.mem_range]
    intro j hj
    rw [hl j hj true, decide_eq_true (by omega)]
    simp
  | o :: rest, k, listed, ho, hl, hz, hk, h => by
    simp only [List.length_cons] at hk
    have h0 : ops[k]? = some o := by simpa using (ho 0).symm
    have hkz : k < ops.size := by omega
    simp only [lexC, Bool.and_eq_true] at h
    obtain ⟨h1, h2, h3⟩ := h
    simp only [List.length_cons, Region.lexFrom, Bool.and_eq_true]
    refine ⟨⟨?_, ?_⟩, lexC_from md ops rest (k + 1) _ (fun j => by have := ho (j + 1); simpa [Nat.add_assoc, Nat.add_comm 1 j] using this) ?_ (by simpa using hz) (by omega) h3⟩
    · simp only [Region.ready, List.contains_iff_mem, List.mem_filter, List.mem_range]
      refine ⟨hkz, ?_⟩
      rw [hl k hkz true, decide_eq_false (by omega), h0]
      simp only [Option.map_some, Option.getD_some, Bool.not_false, Bool.true_and]
      rw [Array.all_eq_true_iff_forall_mem]
      intro e he
      have := (List.all_eq_true.1 h1) e (by simpa using he)
      rw [Bool.or_eq_true] at this ⊢
      rcases this with h | h
      · exact .inl h
      · have h := of_decide_eq_true h
        exact .inr (by rw [hl _ (by omega) false]; exact decide_eq_true h)
    · simp only [Region.free, h0, List.all_eq_true, List.mem_range]
      intro j hj
      rcases Nat.lt_trichotomy j k with hjk | hjk | hjk
      · rw [hl j hj true, decide_eq_true hjk]; simp
      · subst hjk; simp
      · have hr : rest[j - k - 1]? = ops[j]? := by have := ho (j - k - 1 + 1); rw [List.getElem?_cons_succ] at this; rw [this]; congr 1; omega
        have hoj : ops[j]? = some ops[j] := Array.getElem?_eq_getElem hj
        rw [hoj] at hr ⊢
        have := (List.all_eq_true.1 h2) _ (List.mem_of_getElem? hr)
        rw [Bool.or_eq_true] at this
        simp only [Bool.or_eq_true]
        refine .inr (this.imp (fun h => ?_) id)
        rw [List.any_eq_true] at h
        obtain ⟨e, he, hb⟩ := h
        rw [Array.any_eq_true']
        exact ⟨e, by simpa using he, hb⟩
    · intro j hj d
      by_cases hjk : k = j
      · subst hjk
        rw [Array.getD_eq_getD_getElem?, Array.getElem?_setIfInBounds_self_of_lt (by omega)]
        simp
      · rw [getD_set_ne d hjk, hl j hj d]
        by_cases hlt : j < k
        · rw [decide_eq_true hlt, decide_eq_true (by omega)]
        · rw [decide_eq_false hlt, decide_eq_false (by omega)]
theorem lexC_is {md : Region.Mode} {l : List Oper} (hs : Region.noSelect l.toArray = true) (h : lexC md l.toArray 0 l = true) : Region.lexB md l.toArray = true := by
  unfold Region.lexB
  rw [hs, Bool.true_and]
  have := lexC_from md l.toArray l 0 (Array.replicate l.toArray.size false) (fun j => by simp) (fun j hj d => by
    rw [Array.getD_eq_getD_getElem?, Array.getElem?_eq_getElem (by simpa using hj)]
    simp) (by simp) (by simp) h
  simpa using this
end Go.Proofs.YtlaeflpddehipabGreatDoor

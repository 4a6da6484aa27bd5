/- a region that draws its order, by an invariant over what has run. No program stands here. -/
import Derived.Orders
namespace Go.Proofs.Ytcpcohkfailmaaa
variable {P : Program} {ops : Array Oper} {Q : Exit → Act → World → Prop} {md : Region.Mode}

theorem ready_parts {L : Array Bool} {i : Nat} (h : i ∈ Region.ready md ops L) :
    ∃ o, ops[i]? = some o ∧ L.getD i true = false ∧ o.after.all (fun e => !Region.binds md e || L.getD e.on false) = true := by
  unfold Region.ready at h
  rw [List.mem_filter, Bool.and_eq_true] at h
  obtain ⟨_, h1, h2⟩ := h
  cases ho : ops[i]? with
  | none => rw [ho] at h2; simp at h2
  | some o =>
    rw [ho] at h2
    exact ⟨o, rfl, by simpa using h1, by simpa using h2⟩

def leftOf (L : Array Bool) : Nat := L.toList.count false

theorem count_set_true : ∀ {l : List Bool} {i : Nat}, l[i]? = some false → (l.set i true).count false + 1 = l.count false
  | [], i, h => by simp at h
  | b :: l, 0, h => by
    simp at h
    subst h
    simp
  | b :: l, i + 1, h => by
    have ih := count_set_true (l := l) (i := i) (by simpa using h)
    rw [List.set_cons_succ, List.count_cons, List.count_cons]
    omega
theorem left_set {L : Array Bool} {i : Nat} (h : L.getD i true = false) : leftOf (L.setIfInBounds i true) + 1 = leftOf L := by
  have h1 : L.toList[i]? = some false := by
    have : i < L.size := by
      rcases Nat.lt_or_ge i L.size with h1 | h1
      · exact h1
      · rw [Array.getD_eq_getD_getElem?, Array.getElem?_eq_none h1] at h; cases h
    rw [Array.getD_eq_getD_getElem?, Array.getElem?_eq_getElem this] at h
    simp at h
    rw [Array.getElem?_toList, Array.getElem?_eq_getElem this, h]
  unfold leftOf
  rw [Array.toList_setIfInBounds]
  exact count_set_true h1
theorem ready_nil {L : Array Bool} (h : leftOf L = 0) (hs : L.size = ops.size) : Region.ready md ops L = [] := by
  unfold Region.ready
  rw [List.filter_eq_nil_iff]
  intro i hi
  have hlt : i < L.size := by rw [hs]; exact List.mem_range.1 hi
  have h1 : L.getD i true = true := by
    cases hb : L.getD i true with
    | true => rfl
    | false => have := left_set hb; omega
  rw [h1]
  simp

theorem wpAny_inv (Inv : Array Bool → Act → World → Prop) (size : ∀ L a w, Inv L a w → L.size = ops.size)
    (step : ∀ L a w, Inv L a w → ∀ i o, ops[i]? = some o → L.getD i true = false → o.after.all (fun e => !Region.binds md e || L.getD e.on false) = true →
      if Region.wanted o (yielded ops a.tmps) = true then o.wp P a w (Inv (L.setIfInBounds i true)) Q else Inv (L.setIfInBounds i true) (a.put o.dst undef) w)
    (done : ∀ L a w, Inv L a w → Region.ready md ops L = [] → Q .normal a w) :
    ∀ fuel L a w, Inv L a w → leftOf L ≤ fuel → wpAny P md ops Q fuel L a w
  | 0, L, a, w, h, hl => by
    have hr := ready_nil (md := md) (ops := ops) (Nat.le_zero.1 hl) (size _ _ _ h)
    exact ⟨hr, done L a w h hr⟩
  | fuel + 1, L, a, w, h, hl => by
    refine ⟨fun hr => done L a w h hr, fun i hi => ?_⟩
    obtain ⟨o, ho, hf, haft⟩ := ready_parts hi
    have hs := step L a w h i o ho hf haft
    have hrec : ∀ a' w', Inv (L.setIfInBounds i true) a' w' → wpAny P md ops Q fuel (L.setIfInBounds i true) a' w' := fun a' w' h' => wpAny_inv Inv size step done fuel _ a' w' h' (by have := left_set hf; omega)
    unfold wpOp
    rw [ho]
    dsimp only
    split at hs
    · rename_i hw
      rw [if_pos hw]
      exact .inl (Oper.wp_mono hrec hs)
    · rename_i hw
      rw [if_neg hw]
      exact hrec _ _ hs
end Go.Proofs.Ytcpcohkfailmaaa

/- A region whose orders are too many to walk one by one: one statement of what has come up, of the frame and of the world, kept by each operation that may come up. -/
import Derived.Test.YtinjioheimpoeaaBase
import Derived.OrdersHeld
namespace Go.Proofs.Ytinjioheimpoeaa
set_option linter.all false
section
variable {P : Program} {ops : Array Oper} {Q : Exit → Act → World → Prop} {md : Region.Mode}
/-- How many have not come up yet. -/
def leftOf (listed : Array Bool) : Nat := listed.toList.count false
theorem leftOf_set {listed : Array Bool} {i : Nat} (h : listed.getD i true = false) : leftOf (listed.setIfInBounds i true) + 1 = leftOf listed := by
  have hlt : i < listed.size := by
    rcases Nat.lt_or_ge i listed.size with h' | h'
    · exact h'
    · simp [Array.getElem?_eq_none h'] at h
  have hg : listed.toList[i]? = some false := by
    rw [Array.getElem?_toList, Array.getElem?_eq_getElem hlt]
    have : listed[i] = false := by simpa [Array.getD, hlt] using h
    rw [this]
  unfold leftOf
  rw [Array.toList_setIfInBounds]
  generalize listed.toList = l at hg
  clear h hlt
  induction l generalizing i with
  | nil => simp at hg
  | cons x l ih =>
    cases i with
    | zero => simp at hg; subst hg; simp
    | succ i =>
      rw [List.getElem?_cons_succ] at hg
      have := ih hg
      rw [List.set_cons_succ, List.count_cons, List.count_cons]
      omega
/-- A statement that each operation that may come up keeps, and that at the end gives what is wanted. -/
theorem wpAny_inv (Inv : Array Bool → Act → World → Prop)
    (hstep : ∀ listed a w, Inv listed a w → ∀ i ∈ Region.ready md ops listed, wpOp P ops Q i (fun a' w' => Inv (listed.setIfInBounds i true) a' w') a w)
    (hend : ∀ listed a w, Inv listed a w → Region.ready md ops listed = [] → Q .normal a w) :
    ∀ fuel listed a w, leftOf listed ≤ fuel → Inv listed a w → wpAny P md ops Q fuel listed a w := by
  intro fuel
  induction fuel with
  | zero =>
    intro listed a w hf hI
    have hr : Region.ready md ops listed = [] := by
      cases hr : Region.ready md ops listed with
      | nil => rfl
      | cons i rs =>
        have hi : i ∈ Region.ready md ops listed := by rw [hr]; simp
        have := leftOf_set (mem_ready.1 hi).1
        omega
    exact ⟨hr, hend _ _ _ hI hr⟩
  | succ fuel ih =>
    intro listed a w hf hI
    refine ⟨hend _ _ _ hI, fun i hi => wpOp_mono (fun a' w' h => ih _ a' w' ?_ h) (hstep _ _ _ hI i hi)⟩
    have := leftOf_set (mem_ready.1 hi).1
    omega
theorem ready_edge {L : Array Bool} {i j : Nat} {o : Oper} {e : Edge} (hi : i ∈ Region.ready md ops L) (ho : ops[i]? = some o) (he : o.after[j]? = some e) (hb : Region.binds md e = true) : L.getD e.on false = true := by
  obtain ⟨_, o', ho', h⟩ := mem_ready.1 hi
  rw [ho] at ho'
  cases ho'
  exact h e (Array.mem_of_getElem? he) hb
theorem ready_lt {L : Array Bool} {i : Nat} (hi : i ∈ Region.ready md ops L) : i < ops.size := by
  obtain ⟨_, o, ho, _⟩ := mem_ready.1 hi
  rcases Nat.lt_or_ge i ops.size with h | h
  · exact h
  · rw [Array.getElem?_eq_none h] at ho; cases ho
/-- Each operation waits for earlier ones alone. -/
def backs (ops : Array Oper) : Bool := (List.range ops.size).all fun i => match ops[i]? with | none => true | some o => o.after.toList.all (fun e => decide (e.on < i))
theorem ready_ne {L : Array Bool} (hb : backs ops = true) (hs : L.size = ops.size) : ∀ i, L.getD i true = false → Region.ready md ops L ≠ [] := by
  intro i
  induction i using Nat.strongRecOn with
  | ind i ih =>
    intro hi hn
    have hlt : i < L.size := by
      rcases Nat.lt_or_ge i L.size with h' | h'
      · exact h'
      · simp [Array.getElem?_eq_none h'] at hi
    have hlo : i < ops.size := by omega
    by_cases hall : ∀ e ∈ ops[i].after, Region.binds md e = true → L.getD e.on false = true
    · have : i ∈ Region.ready md ops L := mem_ready.2 ⟨hi, ops[i], Array.getElem?_eq_getElem hlo, hall⟩
      rw [hn] at this
      cases this
    · rw [Classical.not_forall] at hall
      obtain ⟨e, hall⟩ := hall
      rw [Classical.not_imp, Classical.not_imp] at hall
      obtain ⟨he, _, hno⟩ := hall
      have hb' := List.all_eq_true.1 hb i (List.mem_range.2 hlo)
      simp only [Array.getElem?_eq_getElem hlo] at hb'
      have hei : e.on < i := by
        have := List.all_eq_true.1 hb' e (by simpa using he)
        simpa using this
      refine ih e.on hei ?_ hn
      have hel : e.on < L.size := by omega
      have h1 : L.getD e.on false = L[e.on] := by simp [Array.getD, hel]
      have h2 : L.getD e.on true = L[e.on] := by simp [Array.getD, hel]
      rw [h1] at hno
      rw [h2]
      simpa using hno
/-- One statement kept till the stop, from where the order is walked. -/
theorem wpAny_until (Inv : Array Bool → Act → World → Prop) (stop : Array Bool → Bool)
    (hstep : ∀ L a w, Inv L a w → stop L = false → ∀ i ∈ Region.ready md ops L, wpOp P ops Q i (fun a' w' => Inv (L.setIfInBounds i true) a' w') a w)
    (hnone : ∀ L a w, Inv L a w → stop L = false → Region.ready md ops L ≠ [])
    (hstop : ∀ L a w, Inv L a w → stop L = true → wpAny P md ops Q (leftOf L) L a w) :
    ∀ fuel L a w, leftOf L = fuel → Inv L a w → wpAny P md ops Q fuel L a w := by
  intro fuel
  induction fuel with
  | zero =>
    intro L a w hf hI
    cases hs : stop L with
    | true => exact hf ▸ hstop L a w hI hs
    | false =>
      refine absurd ?_ (hnone L a w hI hs)
      cases hr : Region.ready md ops L with
      | nil => rfl
      | cons i rs =>
        have hi : i ∈ Region.ready md ops L := by rw [hr]; simp
        have := leftOf_set (mem_ready.1 hi).1
        omega
  | succ fuel ih =>
    intro L a w hf hI
    cases hs : stop L with
    | true => exact hf ▸ hstop L a w hI hs
    | false =>
      refine ⟨fun h => absurd h (hnone L a w hI hs), fun i hi => wpOp_mono (fun a' w' h => ih _ a' w' ?_ h) (hstep L a w hI hs i hi)⟩
      have := leftOf_set (mem_ready.1 hi).1
      omega
theorem wp_region_until {id : Nat} {a : Act} {w : World} (hm : P.follows .mixedOrders = true) (Inv : Array Bool → Act → World → Prop) (stop : Array Bool → Bool)
    (h0 : Inv (Array.replicate ops.size false) a w.drew)
    (hstep : ∀ L a w, Inv L a w → stop L = false → ∀ i ∈ Region.ready .any ops L, wpOp P ops Q i (fun a' w' => Inv (L.setIfInBounds i true) a' w') a w)
    (hnone : ∀ L a w, Inv L a w → stop L = false → Region.ready .any ops L ≠ [])
    (hstop : ∀ L a w, Inv L a w → stop L = true → wpAny P .any ops Q (leftOf L) L a w) : (Code.region id ops true).wp P Q a w := by
  refine wp_region_any hm (wpAny_until Inv stop hstep hnone hstop _ _ _ _ ?_ h0)
  unfold leftOf
  simp
end
end Go.Proofs.Ytinjioheimpoeaa

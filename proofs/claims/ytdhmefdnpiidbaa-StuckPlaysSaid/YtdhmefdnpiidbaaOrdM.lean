/- Plain mathematics of a sort by exchanges: lists of whole numbers alone; no program. -/
import Derived.Below
namespace Go.Proofs.Ytdhmefdnpiidbaa.Ord

def insI (x : Int) : List Int → List Int
  | [] => [x]
  | y :: ys => if x ≤ y then x :: y :: ys else y :: insI x ys
def sortI (l : List Int) : List Int := l.foldr insI []
def Asc (l : List Int) : Prop := l.Pairwise (· ≤ ·)

theorem insI_perm (x : Int) (l : List Int) : (insI x l).Perm (x :: l) := by
  induction l with
  | nil => exact List.Perm.refl _
  | cons y ys ih =>
    unfold insI
    split
    · exact List.Perm.refl _
    · exact (ih.cons y).trans (List.Perm.swap x y ys)
theorem insI_asc (x : Int) (l : List Int) (h : Asc l) : Asc (insI x l) := by
  induction l with
  | nil => simp [insI, Asc]
  | cons y ys ih =>
    unfold Asc at *
    rw [List.pairwise_cons] at h
    unfold insI
    split
    · rename_i hxy
      rw [List.pairwise_cons, List.pairwise_cons]
      refine ⟨fun z hz => ?_, h⟩
      rcases List.mem_cons.1 hz with rfl | hz
      · exact hxy
      · have := h.1 z hz; omega
    · rename_i hxy
      rw [List.pairwise_cons]
      refine ⟨fun z hz => ?_, ih h.2⟩
      rcases List.mem_cons.1 ((insI_perm x ys).mem_iff.1 hz) with rfl | hz
      · omega
      · exact h.1 z hz
theorem sortI_perm (l : List Int) : (sortI l).Perm l := by
  induction l with
  | nil => exact List.Perm.refl _
  | cons y ys ih => exact (insI_perm y _).trans (ih.cons y)
theorem sortI_asc (l : List Int) : Asc (sortI l) := by
  induction l with
  | nil => exact List.Pairwise.nil
  | cons y ys ih => exact insI_asc y _ ih
theorem sortI_length (l : List Int) : (sortI l).length = l.length := (sortI_perm l).length_eq
theorem asc_unique {a b : List Int} (h : a.Perm b) (ha : Asc a) (hb : Asc b) : a = b :=
  h.eq_of_pairwise (fun x y _ _ h1 h2 => by omega) ha hb
theorem sortI_unique {a l : List Int} (h : a.Perm l) (ha : Asc a) : a = sortI l := asc_unique (h.trans (sortI_perm l).symm) ha (sortI_asc l)
theorem sortI_of_perm {a b : List Int} (h : a.Perm b) : sortI a = sortI b := sortI_unique ((sortI_perm a).trans h) (sortI_asc a)
theorem sortI_of_asc {a : List Int} (h : Asc a) : sortI a = a := (sortI_unique (List.Perm.refl a) h).symm

/-! exchanges -/
def gx (xs : List Int) (j : Nat) : Int := xs.getD j 0
theorem gx_lt (xs : List Int) (j : Nat) (h : j < xs.length) : gx xs j = xs[j] := by simp [gx, h]
def swp (xs : List Int) (i : Nat) : List Int := (xs.set (i - 1) (gx xs i)).set i (gx xs (i - 1))
theorem swp_length (xs : List Int) (i : Nat) : (swp xs i).length = xs.length := by simp [swp]
theorem gx_set (xs : List Int) (i j : Nat) (v : Int) (h : i < xs.length) : gx (xs.set i v) j = if j = i then v else gx xs j := by
  unfold gx
  rw [List.getD_eq_getElem?_getD, List.getElem?_set]
  by_cases e : i = j
  · subst e; simp [h]
  · rw [if_neg e, if_neg (by omega), List.getD_eq_getElem?_getD]
theorem gx_swp (xs : List Int) (i j : Nat) (h1 : 1 ≤ i) (h : i < xs.length) : gx (swp xs i) j = if j = i then gx xs (i - 1) else if j = i - 1 then gx xs i else gx xs j := by
  unfold swp
  rw [gx_set _ _ _ _ (by simpa using h), gx_set _ _ _ _ (by omega)]
theorem swp_perm (xs : List Int) (i : Nat) (h1 : 1 ≤ i) (h : i < xs.length) : (swp xs i).Perm xs := by
  unfold swp
  rw [gx_lt xs i h, gx_lt xs (i - 1) (by omega)]
  exact List.set_set_perm (by omega) h
theorem asc_of_step (xs : List Int) (h : ∀ p, p + 1 < xs.length → gx xs p ≤ gx xs (p + 1)) : Asc xs := by
  have hle : ∀ d p, p + d < xs.length → gx xs p ≤ gx xs (p + d) := by
    intro d
    induction d with
    | zero => intro p _; exact Int.le_refl _
    | succ d ih =>
      intro p hp
      have h1 := ih p (by omega)
      have h2 := h (p + d) (by omega)
      exact Int.le_trans h1 h2
  unfold Asc
  rw [List.pairwise_iff_getElem]
  intro i j hi hj hij
  have := hle (j - i) i (by omega)
  rw [show i + (j - i) = j by omega, gx_lt xs i hi, gx_lt xs j hj] at this
  exact this
theorem asc_step {xs : List Int} (h : Asc xs) (p q : Nat) (hpq : p ≤ q) (hq : q < xs.length) : gx xs p ≤ gx xs q := by
  rcases Nat.lt_or_ge p q with hlt | hge
  · rw [gx_lt xs p (by omega), gx_lt xs q hq]
    exact List.pairwise_iff_getElem.1 h p q (by omega) hq hlt
  · obtain rfl : p = q := by omega
    exact Int.le_refl _

/-- Behind k passes. -/
def OInv (l xs : List Int) (k : Nat) : Prop := xs.Perm l ∧ ∀ p q, p ≤ q → q < xs.length → xs.length ≤ q + k → gx xs p ≤ gx xs q
/-- Within the pass behind k passes, ahead of place i. -/
def BInv (l xs : List Int) (k i : Nat) (mv : Bool) : Prop :=
  xs.Perm l ∧ (∀ p, p < i → gx xs p ≤ gx xs (i - 1)) ∧
  (∀ p q, p ≤ q → q < xs.length → (xs.length ≤ q + k ∨ (xs.length = q + k + 1 ∧ q + 1 ≤ i)) → gx xs p ≤ gx xs q) ∧
  (mv = false → ∀ p, p + 1 < i → gx xs p ≤ gx xs (p + 1))
theorem OInv.zero (l : List Int) : OInv l l 0 := ⟨List.Perm.refl _, fun p q _ h1 h2 => by omega⟩
theorem OInv.begin {l xs : List Int} {k : Nat} (h : OInv l xs k) : BInv l xs k 1 false := by
  refine ⟨h.1, fun p hp => ?_, fun p q hpq hq hc => ?_, fun _ p hp => by omega⟩
  · obtain rfl : p = 0 := by omega
    exact Int.le_refl _
  · rcases hc with hc | ⟨_, hc⟩
    · exact h.2 p q hpq hq hc
    · obtain rfl : p = q := by omega
      exact Int.le_refl _
theorem BInv.keep {l xs : List Int} {k i : Nat} {mv : Bool} (h : BInv l xs k i mv) (h1 : 1 ≤ i) (hi : i < xs.length) (hle : gx xs (i - 1) ≤ gx xs i) : BInv l xs k (i + 1) mv := by
  obtain ⟨hp, hm, ht, hs⟩ := h
  have hm' : ∀ p, p < i + 1 → gx xs p ≤ gx xs i := by
    intro p hlt
    rcases Nat.lt_or_ge p i with hl | hg
    · exact Int.le_trans (hm p hl) hle
    · obtain rfl : p = i := by omega
      exact Int.le_refl _
  refine ⟨hp, hm', fun p q hpq hq hc => ?_, fun e p hlt => ?_⟩
  · rcases Nat.lt_or_ge q i with hl | hg
    · exact ht p q hpq hq (by omega)
    · rcases hc with hc | hc
      · exact ht p q hpq hq (.inl hc)
      · obtain rfl : q = i := by omega
        exact hm' p (by omega)
  · rcases Nat.lt_or_ge (p + 1) i with hl | hg
    · exact hs e p hl
    · obtain rfl : i = p + 1 := by omega
      exact hle
theorem BInv.swap {l xs : List Int} {k i : Nat} {mv : Bool} (h : BInv l xs k i mv) (h1 : 1 ≤ i) (hi : i < xs.length) (hlt : gx xs i < gx xs (i - 1)) : BInv l (swp xs i) k (i + 1) true := by
  obtain ⟨hp, hm, ht, hs⟩ := h
  have hbad : ¬ xs.length ≤ i + k := fun hc => by
    have := ht (i - 1) i (by omega) hi (.inl hc)
    omega
  have hm' : ∀ p, p < i + 1 → gx (swp xs i) p ≤ gx xs (i - 1) := by
    intro p hl
    rw [gx_swp xs i p h1 hi]
    split
    · exact Int.le_refl _
    · split
      · omega
      · exact hm p (by omega)
  refine ⟨(swp_perm xs i h1 hi).trans hp, fun p hl => ?_, fun p q hpq hq hc => ?_, fun e => by cases e⟩
  · rw [show i + 1 - 1 = i by omega, gx_swp xs i i h1 hi, if_pos rfl]
    exact hm' p hl
  · rw [swp_length] at hq hc
    rcases Nat.lt_or_ge q (i - 1) with hq1 | hq1
    · rw [gx_swp xs i p h1 hi, gx_swp xs i q h1 hi, if_neg (by omega), if_neg (by omega), if_neg (by omega), if_neg (by omega)]
      exact ht p q hpq hq (by omega)
    · rcases Nat.lt_or_ge i q with hq2 | hq2
      · have hc' : xs.length ≤ q + k := by omega
        rw [gx_swp xs i q h1 hi, if_neg (by omega), if_neg (by omega), gx_swp xs i p h1 hi]
        split
        · exact ht (i - 1) q (by omega) hq (.inl hc')
        · split
          · exact ht i q (by omega) hq (.inl hc')
          · exact ht p q hpq hq (.inl hc')
      · rcases Nat.lt_or_ge q i with hq3 | hq3
        · omega
        · obtain rfl : q = i := by omega
          rw [gx_swp xs q q h1 hi, if_pos rfl]
          exact hm' p (by omega)
theorem BInv.done {l xs : List Int} {k : Nat} {mv : Bool} (h : BInv l xs k xs.length mv) : OInv l xs (k + 1) := by
  refine ⟨h.1, fun p q hpq hq hc => h.2.2.1 p q hpq hq ?_⟩
  omega
theorem BInv.still {l xs : List Int} {k : Nat} (h : BInv l xs k xs.length false) : xs = sortI l :=
  sortI_unique h.1 (asc_of_step xs (fun p hp => h.2.2.2 rfl p hp))
theorem OInv.full {l xs : List Int} (h : OInv l xs xs.length) : xs = sortI l :=
  sortI_unique h.1 (asc_of_step xs (fun p hp => h.2 p (p + 1) (by omega) hp (by omega)))
theorem OInv.few {l xs : List Int} {k : Nat} (h : OInv l xs k) (hk : xs.length ≤ k) : xs = sortI l :=
  sortI_unique h.1 (asc_of_step xs (fun p hp => h.2 p (p + 1) (by omega) hp (by omega)))
end Go.Proofs.Ytdhmefdnpiidbaa.Ord

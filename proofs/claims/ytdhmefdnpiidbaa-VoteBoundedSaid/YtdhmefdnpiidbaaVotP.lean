/- The plain law of a vote: it lies where its values lie; with a clip of 0 it is the mid. -/
import Derived.Test.YtdhmefdnpiidbaaVot2
namespace Go.Proofs.Ytdhmefdnpiidbaa.Vot
open Go.RowKit Go.Proofs.YtdhmefdnpiidbaaW.PrintWords Go.Proofs.YtdhmefdnpiidbaaW.PrintMore Go.Proofs.YtdhmefdnpiidbaaW.PrintLast
open Go.Proofs.Ytdhmefdnpiidbaa.Base Go.Proofs.Ytdhmefdnpiidbaa.Ord

theorem tot_pos : ∀ {l : List (Int × Int)}, l.all goodP = true → (l.length : Int) ≤ totI l
  | [], _ => by simp [totI]
  | x :: l, h => by
    simp only [List.all_cons, Bool.and_eq_true] at h
    have h1 := tot_pos h.2
    have h2 := (good_spec h.1).2
    simp only [totI, List.length_cons]; push_cast; omega
theorem sum_in (m c A B : Int) : ∀ {l : List (Int × Int)}, l.all goodP = true → (∀ x ∈ l, A ≤ clampI x.1 (m - c) (m + c) ∧ clampI x.1 (m - c) (m + c) ≤ B) → A * totI l ≤ sumI m c l ∧ sumI m c l ≤ B * totI l
  | [], _, _ => by simp [totI, sumI]
  | x :: l, h, hx => by
    simp only [List.all_cons, Bool.and_eq_true] at h
    have h1 := sum_in m c A B h.2 fun y hy => hx y (List.mem_cons_of_mem _ hy)
    have h2 := (good_spec h.1).2
    have h3 := hx x List.mem_cons_self
    have h4 : x.2 * A ≤ x.2 * clampI x.1 (m - c) (m + c) := Int.mul_le_mul_of_nonneg_left h3.1 (by omega)
    have h5 : x.2 * clampI x.1 (m - c) (m + c) ≤ x.2 * B := Int.mul_le_mul_of_nonneg_left h3.2 (by omega)
    simp only [totI, sumI, Int.mul_add]
    rw [Int.mul_comm A x.2, Int.mul_comm B x.2]
    omega
/-- The weighted mean, rounded down, lies where the clamped values lie. -/
theorem mean_in (m c A B : Int) {l : List (Int × Int)} (h : l.all goodP = true) (hl : 1 ≤ l.length) (hx : ∀ x ∈ l, A ≤ clampI x.1 (m - c) (m + c) ∧ clampI x.1 (m - c) (m + c) ≤ B) : A ≤ sumI m c l / totI l ∧ sumI m c l / totI l ≤ B := by
  have h1 := tot_pos h
  obtain ⟨h2, h3⟩ := sum_in m c A B h hx
  have ht : 0 < totI l := by omega
  refine ⟨Int.le_ediv_of_mul_le ht h2, ?_⟩
  have : sumI m c l / totI l < B + 1 := Int.ediv_lt_of_lt_mul ht (by rw [Int.add_mul]; omega)
  omega
theorem clamp_near (n m c : Int) (hc : 0 ≤ c) : m - c ≤ clampI n (m - c) (m + c) ∧ clampI n (m - c) (m + c) ≤ m + c := clampI_in n _ _ (by omega)
theorem clamp_between (n m c A B : Int) (hc : 0 ≤ c) (hn : A ≤ n ∧ n ≤ B) (hm : A ≤ m ∧ m ≤ B) : A ≤ clampI n (m - c) (m + c) ∧ clampI n (m - c) (m + c) ≤ B := by unfold clampI mx mn; omega

theorem zip_ne {l1 l2 : List Int} (hl : l2.length = l1.length) (h : 1 ≤ l1.length) : 1 ≤ (l1.zip l2).length := by simp; omega
theorem zip_left {l1 l2 : List Int} {x : Int × Int} (h : x ∈ l1.zip l2) : x.1 ∈ l1 := (List.of_mem_zip (show (x.1, x.2) ∈ _ from h)).1

theorem voteB_spec {lo hi clip : Int} {l1 l2 : List Int} (h : voteB lo hi clip l1 l2 = true) : rightB lo hi clip = true ∧ midB l1 = true ∧ l2.length = l1.length ∧ (l1.zip l2).all goodP = true := by
  simp only [voteB, Bool.and_eq_true, decide_eq_true_eq] at h
  exact ⟨h.1.1.1, h.1.1.2, h.1.2, h.2⟩

/-- The vote lies between A and B, where all clamped values do, if the range lets it. -/
theorem vote_in {lo hi clip A B : Int} {l1 l2 : List Int} (h : voteB lo hi clip l1 l2 = true) (hA : A ≤ hi) (hB : lo ≤ B)
    (hx : ∀ x ∈ l1, A ≤ clampI x (midI (sortI l1) - clip) (midI (sortI l1) + clip) ∧ clampI x (midI (sortI l1) - clip) (midI (sortI l1) + clip) ≤ B) : A ≤ voteI lo hi clip l1 l2 ∧ voteI lo hi clip l1 l2 ≤ B := by
  obtain ⟨h1, h2, h3, h4⟩ := voteB_spec h
  have hr := right_spec h1
  simp only [midB, Bool.and_eq_true, decide_eq_true_eq] at h2
  have hm := mean_in (midI (sortI l1)) clip A B h4 (zip_ne h3 h2.1.2) fun x hx' => hx x.1 (zip_left hx')
  unfold voteI clampI mx mn
  omega

/-- With a clip of 0 it is the mid, clamped. -/
theorem vote_zero {lo hi clip : Int} {l1 l2 : List Int} (h : voteB lo hi clip l1 l2 = true) : voteI lo hi 0 l1 l2 = clampI (midI (sortI l1)) lo hi := by
  obtain ⟨h1, h2, h3, h4⟩ := voteB_spec h
  simp only [midB, Bool.and_eq_true, decide_eq_true_eq] at h2
  have hm := mean_in (midI (sortI l1)) 0 (midI (sortI l1)) (midI (sortI l1)) h4 (zip_ne h3 h2.1.2) fun x _ => by unfold clampI mx mn; omega
  unfold voteI
  rw [show sumI (midI (sortI l1)) 0 (l1.zip l2) / totI (l1.zip l2) = midI (sortI l1) by omega]
theorem voteB_zero {lo hi clip : Int} {l1 l2 : List Int} (h : voteB lo hi clip l1 l2 = true) : voteB lo hi 0 l1 l2 = true := by
  obtain ⟨h1, h2, h3, h4⟩ := voteB_spec h
  have hr := right_spec h1
  have h0 : rightB lo hi 0 = true := by simp only [rightB, Bool.and_eq_true, decide_eq_true_eq]; omega
  simp [voteB, h0, h2, h3, h4]
/-- Another order of the values and their weights: the same. -/
theorem voteB_perm {lo hi clip : Int} {l1 l2 l3 l4 : List Int} (h : voteB lo hi clip l1 l2 = true) (hp : l3.Perm l1) (hl : l4.length = l3.length) (hz : (l3.zip l4).Perm (l1.zip l2)) : voteB lo hi clip l3 l4 = true := by
  obtain ⟨h1, h2, h3, h4⟩ := voteB_spec h
  have h5 : (l3.zip l4).all goodP = true := by
    rw [List.all_eq_true] at h4 ⊢
    exact fun x hx => h4 x (hz.mem_iff.1 hx)
  have h6 : midB l3 = true := by
    simp only [midB, okB, Bool.and_eq_true, decide_eq_true_eq, Bool.not_eq_true', List.any_eq_false] at h2 ⊢
    rw [hp.length_eq]
    exact ⟨⟨⟨h2.1.1.1, fun x hx => h2.1.1.2 x (hp.mem_iff.1 hx)⟩, h2.1.2⟩, h2.2⟩
  simp [voteB, h1, h6, hl, h5]
theorem mid_perm {l1 l3 : List Int} (hp : l3.Perm l1) : midI (sortI l3) = midI (sortI l1) := by rw [sortI_of_perm hp]
end Go.Proofs.Ytdhmefdnpiidbaa.Vot

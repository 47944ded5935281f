/- The plain law VoteMid: any vote is in the range, near the mid, between its values; with a clip of 0 it is the mid; turned it is the same. -/
import Derived.Test.YtdhmefdnpiidbaaPVoteMidx2
import Derived.Test.YtdhmefdnpiidbaaVotP
namespace Go.Proofs.Ytdhmefdnpiidbaa.Pure
open Go.RowKit Go.Proofs.YtdhmefdnpiidbaaW.PrintWords Go.Proofs.YtdhmefdnpiidbaaW.PrintMore Go.Proofs.YtdhmefdnpiidbaaW.PrintLast
open Go.Proofs.Ytdhmefdnpiidbaa.Base Go.Proofs.Ytdhmefdnpiidbaa.Ord Go.Proofs.Ytdhmefdnpiidbaa.Vot Go.Proofs.Ytdhmefdnpiidbaa.PVoteMid

theorem alive_VoteMid : rudderlaw12_alive.f = some true := by
  have e1 : vote_Vote.f (-100) 100 10 [0, 3, 1000] [1, 1, 2] = some (7, true) := by decide +kernel
  have e2 : vote_Vote.f (-100) 100 10 [-500] [16] = some (-100, true) := by decide +kernel
  have e3 : vote_Vote.f (-100) 100 10 [] [] = some (0, false) := by decide +kernel
  have e4 : vote_Vote.f (-100) 100 10 [1] [17] = some (0, false) := by decide +kernel
  have e5 : vote_Vote.f 1 0 0 [1] [1] = some (0, false) := by decide +kernel
  have e6 : vote_Right.f (-100) 100 10 = some true := by rw [right_f]; decide +kernel
  have e7 : vote_Right.f 0 0 (-1) = some false := by rw [right_f]; decide +kernel
  unfold rudderlaw12_alive.f
  simp [e1, e2, e3, e4, e5, e6, e7]

theorem asc_first {s : List Int} (h : Asc s) (hl : 0 < s.length) : ∀ x ∈ s, rd s 0 ≤ x := by
  intro x hx
  obtain ⟨i, hi, rfl⟩ := List.getElem_of_mem hx
  have e : rd s 0 = s[0] := by simp [rd, hl]
  rw [e]
  rcases Nat.eq_zero_or_pos i with rfl | hp
  · exact Int.le_refl _
  · exact List.pairwise_iff_getElem.1 h 0 i hl hi hp
theorem asc_last {s : List Int} (h : Asc s) (hl : 0 < s.length) : ∀ x ∈ s, x ≤ rd s ((s.length : Int) - 1) := by
  intro x hx
  obtain ⟨i, hi, rfl⟩ := List.getElem_of_mem hx
  have e : rd s ((s.length : Int) - 1) = s[s.length - 1] := by
    have : ((s.length : Int) - 1).toNat = s.length - 1 := by omega
    simp [rd, this, List.getElem?_eq_getElem (show s.length - 1 < s.length by omega)]
  rw [e]
  rcases Nat.lt_or_ge i (s.length - 1) with hp | hp
  · exact List.pairwise_iff_getElem.1 h i (s.length - 1) hi (by omega) hp
  · have : i = s.length - 1 := by omega
    subst this; exact Int.le_refl _

theorem VoteMid (lo hi clip : Int) (l1 l2 : List Int) (by_ : Int) (hb : 0 ≤ by_ ∧ by_ ≤ 255) : ∃ k, rudderlaw12_VoteMid.f k lo hi clip l1 l2 by_ = some true := by
  refine ⟨5, ?_⟩
  unfold rudderlaw12_VoteMid.f
  by_cases h40 : (l1.length : Int) > 40 ∨ (l2.length : Int) > 40
  · have : ∀ b, b = true → rudderlaw12_VoteMid.j0 5 l1 l2 by_ b lo hi clip = some true := by
      rintro b rfl
      rw [rudderlaw12_VoteMid.j0, if_pos rfl, alive_VoteMid]; rfl
    rcases h40 with h | h
    · rw [if_pos h]; exact this _ rfl
    · split
      · exact this _ rfl
      · exact this _ (by simpa using h)
  have h41 : ¬ (l1.length : Int) > 40 := fun h => h40 (.inl h)
  have h42 : ¬ (l2.length : Int) > 40 := fun h => h40 (.inr h)
  rw [if_neg h41, rudderlaw12_VoteMid.j0, if_neg (by simpa using h42)]
  unfold vote_Vote.f
  cases hv : voteB lo hi clip l1 l2 with
  | false => simp [alive_VoteMid]
  | true =>
    obtain ⟨h1, h2, h3, h4⟩ := voteB_spec hv
    have hr := right_spec h1
    have h2' := h2
    simp only [midB, Bool.and_eq_true, decide_eq_true_eq] at h2'
    have hsl := sortI_length l1
    have hin := clampI_in (sumI (midI (sortI l1)) clip (l1.zip l2) / totI (l1.zip l2)) lo hi hr.2.2.2.2.1
    have hmid : order_Mid.f l1 = some (midI (sortI l1), true) := by simp [order_Mid.f, h2]
    have hsort : order_Sort.f l1 = some (sortI l1) := by simp [order_Sort.f, h2'.1.1]
    obtain ⟨mx_, my_, hmx, hmy, hmm⟩ := mid_of l1 h2
    have hz4 := zip_good h3 h4
    have bmx := hz4 _ hmx
    have bmy := hz4 _ hmy
    simp only [if_true, Option.bind_some, hmid, hsort]
    have hn : voteI lo hi clip l1 l2 = clampI (sumI (midI (sortI l1)) clip (l1.zip l2) / totI (l1.zip l2)) lo hi := rfl
    rw [if_neg (by omega), if_pos (by omega), if_neg (by omega), rudderlaw12_VoteMid.j1, if_neg (by simp; omega)]
    generalize hN : voteI lo hi clip l1 l2 = N at hn ⊢
    generalize hM : midI (sortI l1) = M at *
    -- near the mid
    have near : lo ≤ M → M ≤ hi → M - clip ≤ N ∧ N ≤ M + clip := fun a b => by
      rw [← hN]
      exact vote_in hv (by omega) (by omega) fun x _ => by rw [hM]; exact clamp_near x M clip (by omega)
    have e1 : wrap64 (M + clip) = M + clip := wrap_fits _ (by omega)
    have e2 : wrap64 (M - clip) = M - clip := wrap_fits _ (by omega)
    have step2 : ∀ b : Bool, (b = true → lo ≤ M ∧ M ≤ hi) → rudderlaw12_VoteMid.j2 3 l1 l2 by_ N M (sortI l1) b lo hi clip = rudderlaw12_VoteMid.j3 2 l1 l2 by_ N M (sortI l1) false lo hi clip := by
      intro b hb'
      rw [rudderlaw12_VoteMid.j2]
      cases b with
      | false => rfl
      | true =>
        obtain ⟨p, q⟩ := hb' rfl
        have := near p q
        rw [if_pos rfl, e1, e2, if_neg (by omega), decide_eq_false (by omega)]
    have last : rudderlaw12_VoteMid.j4 1 l1 l2 by_ M false lo hi clip = some true := by
      rw [rudderlaw12_VoteMid.j4, if_neg (by simp)]
      have hk0 : 0 ≤ Int.tmod by_ (l1.length : Int) := Int.tmod_nonneg _ hb.1
      have hk1 : Int.tmod by_ (l1.length : Int) < (l1.length : Int) := Int.tmod_lt_of_pos _ (by omega)
      rw [wrap_fits by_ (by omega)]
      generalize Int.tmod by_ (l1.length : Int) = kk at hk0 hk1 ⊢
      obtain ⟨k, rfl⟩ := Int.eq_ofNat_of_zero_le hk0
      have hv0 := voteB_zero hv
      have hp1 : (l1.drop k ++ l1.take k).Perm l1 := by
        have := List.perm_append_comm (l₁ := l1.drop k) (l₂ := l1.take k)
        rwa [List.take_append_drop] at this
      have hlz : (l2.drop k ++ l2.take k).length = (l1.drop k ++ l1.take k).length := by simp [h3]
      have hzz : ((l1.drop k ++ l1.take k).zip (l2.drop k ++ l2.take k)).Perm (l1.zip l2) := by
        rw [List.zip_append (by simp [h3])]
        simp only [List.zip, ← List.drop_zipWith, ← List.take_zipWith]
        have := List.perm_append_comm (l₁ := (l1.zip l2).drop k) (l₂ := (l1.zip l2).take k)
        rwa [List.take_append_drop] at this
      have hvt := voteB_perm hv0 hp1 hlz hzz
      have z1 := vote_zero hv
      have z2 := vote_zero hvt
      rw [mid_perm hp1, hM] at z2
      rw [hM] at z1
      have f1 : vote_Vote.f lo hi 0 l1 l2 = some (clampI M lo hi, true) := by unfold vote_Vote.f; rw [if_pos hv0, z1]
      have f2 : vote_Vote.f lo hi 0 (l1.drop k ++ l1.take k) (l2.drop k ++ l2.take k) = some (clampI M lo hi, true) := by unfold vote_Vote.f; rw [if_pos hvt, z2]
      rw [f1]
      simp only [Int.toNat_natCast, Option.bind_some, alive_VoteMid, if_true, List.nil_append, f2]
      have : clampI M lo hi = mx lo (mn hi M) := by unfold clampI mx mn; omega
      rw [if_neg (by omega), if_pos (by omega), if_pos (by omega), if_pos (by simp; omega), if_pos (by simp; omega), if_pos (by omega), if_pos (by simp; omega), if_pos (by simp; omega), if_pos this]
      simp
    have step3 : rudderlaw12_VoteMid.j3 2 l1 l2 by_ N M (sortI l1) false lo hi clip = some true := by
      rw [rudderlaw12_VoteMid.j3, if_neg (by simp)]
      have hl0 : 0 < (sortI l1).length := by omega
      have w1 : wrap64 (((sortI l1).length : Int) - 1) = ((sortI l1).length : Int) - 1 := wrap_fits _ (by omega)
      rw [if_pos (by omega), w1]
      have af := asc_first (sortI_asc l1) hl0
      have al := asc_last (sortI_asc l1) hl0
      by_cases c1 : rd (sortI l1) 0 ≥ lo
      · rw [if_pos c1, if_pos (by omega), if_pos (by omega)]
        by_cases c2 : rd (sortI l1) (((sortI l1).length : Int) - 1) ≤ hi
        · rw [if_pos c2]
          have hmem : ∀ x ∈ l1, rd (sortI l1) 0 ≤ x ∧ x ≤ rd (sortI l1) (((sortI l1).length : Int) - 1) := fun x hx =>
            ⟨af x ((sortI_perm l1).mem_iff.2 hx), al x ((sortI_perm l1).mem_iff.2 hx)⟩
          have m1 := hmem _ hmx
          have m2 := hmem _ hmy
          have hN' : rd (sortI l1) 0 ≤ N ∧ N ≤ rd (sortI l1) (((sortI l1).length : Int) - 1) := by
            rw [← hN]
            exact vote_in hv (by omega) (by omega) fun x hx => by rw [hM]; exact clamp_between x M clip _ _ (by omega) (hmem x hx) (by omega)
          rw [if_neg (by omega), decide_eq_false (by omega)]
          exact last
        · rw [if_neg c2]; exact last
      · rw [if_neg c1]; exact last
    by_cases c0 : M ≥ lo
    · rw [if_pos c0, step2 _ (fun h => ⟨c0, by simpa using h⟩)]
      exact step3
    · rw [if_neg c0, step2 _ (fun h => by cases h)]
      exact step3
end Go.Proofs.Ytdhmefdnpiidbaa.Pure

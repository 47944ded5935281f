/- The room of the code and the document's: what they have in common. -/
import Derived.Test.YtdhmefdnpiidbaaStuQ
import Derived.Test.YtdhmefdnpiidbaaStuM
namespace Go.Proofs.Ytdhmefdnpiidbaa.Stu
open Go.Proofs.YtdhmefdnpiidbaaW.PrintWords Go.Proofs.YtdhmefdnpiidbaaW.PrintLast Go.Proofs.YtdhmefdnpiidbaaW.PrintMore
open Go.Proofs.Ytdhmefdnpiidbaa.Ord Go.Proofs.Ytdhmefdnpiidbaa.Vot

structure Plays (wd : Int) (ring : List Int) (at_ n : Int) (L : List Int) (last run : Int) (cs : List Int) : Prop where
  hw : 2 ≤ wd ∧ wd ≤ 16
  hlen : ring.length = 16
  hn : n = mn (L.length : Int) (wd - 1)
  hat : at_ = (L.length : Int) % (wd - 1)
  hring : ∀ p : Int, 0 ≤ p → p < L.length → (L.length : Int) ≤ p + (wd - 1) → gx ring (p % (wd - 1)).toNat = gx L p.toNat
  hrun : run = mn (cs.length : Int) wd
  hlast : cs ≠ [] → gx cs 0 = last

section
variable {wd : Int} {ring : List Int} {at_ n : Int} {L : List Int} {last run : Int} {cs : List Int}
theorem Plays.ba (h : Plays wd ring at_ n L last run cs) : 0 ≤ at_ ∧ at_ < wd - 1 := by
  have := h.hw
  rw [h.hat]
  exact ⟨Int.emod_nonneg _ (by omega), Int.emod_lt_of_pos _ (by omega)⟩
theorem Plays.bn (h : Plays wd ring at_ n L last run cs) : 0 ≤ n ∧ n ≤ wd - 1 := by
  have := h.hw
  rw [h.hn]; unfold mn; split <;> omega
theorem Plays.br (h : Plays wd ring at_ n L last run cs) : 0 ≤ run ∧ run ≤ wd := by
  have := h.hw
  rw [h.hrun]; unfold mn; split <;> omega
theorem Plays.start (hw : 2 ≤ wd ∧ wd ≤ 16) : Plays wd (List.replicate 16 0) 0 0 [] 0 0 [] :=
  ⟨hw, by simp, by simp [mn]; try omega, by simp, fun p h0 h1 => by simp at h1; omega, by simp [mn]; try omega, fun h => absurd rfl h⟩
theorem Plays.miss (h : Plays wd ring at_ n L last run cs) : Plays wd ring at_ n L last 0 [] :=
  ⟨h.hw, h.hlen, h.hn, h.hat, h.hring, by have := h.hw; simp [mn]; try omega, fun h => absurd rfl h⟩
theorem Plays.vote (h : Plays wd ring at_ n L last run cs) (v : Int) : Plays wd (ring.set at_.toNat v) (turnAt wd at_) (moreN wd n) (L ++ [v]) last run cs := by
  have hw := h.hw
  have ba := h.ba
  have hl := h.hlen
  have hat := h.hat
  refine ⟨h.hw, by simp [h.hlen], ?_, ?_, ?_, h.hrun, h.hlast⟩
  · unfold moreN
    rw [h.hn]
    simp only [mn, List.length_append, List.length_cons, List.length_nil]
    split <;> split <;> split <;> omega
  · unfold turnAt
    rw [Int.tmod_eq_emod_of_nonneg (by omega), h.hat]
    simp [Int.add_emod]
  · intro p h0 h1 h2
    simp only [List.length_append, List.length_cons, List.length_nil] at h1 h2
    by_cases hp : p = L.length
    · subst hp
      rw [← hat]
      have ht : at_.toNat < ring.length := by omega
      simp [gx, ht]
    · have hne : p % (wd - 1) ≠ at_ := by
        rw [hat]
        intro e
        have e2 := Int.emod_eq_emod_iff_emod_sub_eq_zero.1 e.symm
        rw [Int.emod_eq_of_lt (by omega) (by omega)] at e2
        omega
      have hb : 0 ≤ p % (wd - 1) := Int.emod_nonneg _ (by omega)
      have e3 : at_.toNat ≠ (p % (wd - 1)).toNat := by omega
      have e4 : p.toNat < L.length := by omega
      have := h.hring p h0 (by omega) (by omega)
      simp only [gx, List.getD_eq_getElem?_getD] at this ⊢
      rw [List.getElem?_set_ne e3, this, List.getElem?_append_left e4]
theorem Plays.come (h : Plays wd ring at_ n L last run cs) (v : Int) : Plays wd ring at_ n L v (nextI wd (resetI last run v)) (comeL cs v) := by
  have hw := h.hw
  refine ⟨h.hw, h.hlen, h.hn, h.hat, h.hring, ?_, ?_⟩
  · unfold nextI resetI comeL
    rw [h.hrun]
    by_cases h0 : cs = []
    · subst h0
      have hz : mn (([] : List Int).length : Int) wd = 0 := by
        show (if wd < 0 then wd else 0) = 0
        rw [if_neg (by omega)]
      rw [if_pos (.inl hz), if_neg (fun e => e.1 rfl)]
      rfl
    · have hp : 0 < cs.length := List.length_pos_iff.2 h0
      have hz : ¬ mn (cs.length : Int) wd = 0 := by unfold mn; split <;> omega
      by_cases h1 : gx cs 0 = v
      · have hv : v = last := by rw [← h1]; exact h.hlast h0
        rw [if_neg (by rw [hv]; simp [hz]), if_pos ⟨h0, h1⟩]
        simp only [mn, List.length_append, List.length_cons, List.length_nil]
        split <;> split <;> split <;> omega
      · have hv : v ≠ last := fun e => h1 (by rw [h.hlast h0, e])
        rw [if_pos (.inr hv), if_neg (fun e => h1 e.2)]
        simp [mn]
  · intro _
    unfold comeL
    split
    · rename_i hc
      have hp : 0 < cs.length := List.length_pos_iff.2 hc.1
      have h2 := hc.2
      simp only [gx, List.getD_eq_getElem?_getD] at h2 ⊢
      rw [List.getElem?_append_left hp]
      exact h2
    · simp [gx]
theorem Plays.votes (h : Plays wd ring at_ n L last run cs) : votesV wd ring at_ n = lastV wd L := by
  have hw := h.hw
  have bn := h.bn
  have ba := h.ba
  have hl := h.hlen
  have hat := h.hat
  have hnn : n = mn (L.length : Int) (wd - 1) := h.hn
  have hd : (mx 0 ((L.length : Int) - (wd - 1))).toNat = L.length - n.toNat := by
    rw [hnn]; unfold mx mn; split <;> split <;> omega
  have hnl : n.toNat ≤ L.length := by rw [hnn]; unfold mn; split <;> omega
  unfold lastV
  rw [hd]
  apply List.ext_getElem?
  intro i
  unfold votesV upto
  rw [List.getElem?_map, List.getElem?_drop]
  by_cases hi : i < n.toNat
  · rw [List.getElem?_range hi]
    have hlt : L.length - n.toNat + i < L.length := by omega
    rw [List.getElem?_eq_getElem hlt]
    simp only [Option.map_some, Option.some.injEq]
    have hp := h.hring ((L.length : Int) - n + i) (by omega) (by omega) (by omega)
    have he : idxV wd at_ n i = ((L.length : Int) - n + i) % (wd - 1) := by
      unfold idxV
      rw [Int.tmod_eq_emod_of_nonneg (by omega), hat]
      rw [show (L.length : Int) % (wd - 1) - n + i + (wd - 1) = (L.length : Int) % (wd - 1) + (i - n) + (wd - 1) by omega, Int.add_emod_right, Int.emod_add_emod]
      congr 1; omega
    unfold vx
    rw [he]
    have hb : 0 ≤ ((L.length : Int) - n + i) % (wd - 1) := Int.emod_nonneg _ (by omega)
    have e5 : ((L.length : Int) - n + i).toNat = L.length - n.toNat + i := by omega
    rw [e5] at hp
    simp only [gx, List.getD_eq_getElem?_getD] at hp
    rw [hp, List.getElem?_eq_getElem hlt]
    rfl
  · rw [List.getElem?_eq_none (by simp; omega), List.getElem?_eq_none (by omega)]
    rfl
theorem Plays.moved (h : Plays wd ring at_ n L last run cs) (bd : Int) : movedB wd bd at_ n ring = movedR wd bd L := by
  have hv := h.votes
  have hl : (lastV wd L).length = n.toNat := by rw [← hv, votesV_length]
  have bn := h.bn
  unfold movedB movedR
  rw [hv, hl]
  congr 1
  apply decide_eq_decide.2
  omega
theorem Plays.frozen (h : Plays wd ring at_ n L last run cs) (bd v : Int) :
    (decide (nextI wd (resetI last run v) = wd) && movedB wd bd at_ n ring) = (decide (wd ≤ ((comeL cs v).length : Int)) && movedR wd bd L) := by
  rw [h.moved bd]
  congr 1
  apply decide_eq_decide.2
  rw [(h.come v).hrun]
  unfold mn
  split <;> omega
end
end Go.Proofs.Ytdhmefdnpiidbaa.Stu

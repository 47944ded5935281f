/- For every list of bools, every mask and every place: the mask of the list, whether the bit of the mask is 1, and how many are, are as the document says; of the mask of a list of at most 16 these are what the list tells. -/
import Derived.Test.YtdhmefdnpiidbaaBasex5
import Derived.Test.YtdhmefdnpiidbaaRef01
namespace Go.Proofs.Ytdhmefdnpiidbaa.Pure
open Go.RowKit Go.Proofs.YtdhmefdnpiidbaaW.PrintWords Go.Proofs.YtdhmefdnpiidbaaW.PrintLast
open Go.Proofs.Ytdhmefdnpiidbaa.Base Go.Proofs.Ytdhmefdnpiidbaa.Ref Go.Proofs.Ytdhmefdnpiidbaa.Mask

theorem alive01_some : rudderlaw01_alive.f 30 = some true := by decide +kernel
theorem ev_alive01 : Ev (fun k => rudderlaw01_alive.f k) true := Ev.of (fun k => rudderlaw01_alive.mono k) alive01_some
theorem has_mask (l : List Bool) (hl : l.length ≤ 16) (i : Nat) (hi : i < l.length) : hasB (maskL l) (i : Int) = l.getD i false := by
  have hp : 2 ^ l.length ≤ 2 ^ 16 := Nat.pow_le_pow_right (by omega) hl
  have hm := maskL_lt l
  unfold hasB
  rw [decide_eq_true (show 0 ≤ (maskL l : Int) ∧ (maskL l : Int) < 65536 by omega), decide_eq_true (show 0 ≤ (i : Int) ∧ (i : Int) < 16 by omega), Int.toNat_natCast, Int.toNat_natCast, maskL_bit]
  cases l.getD i false <;> simp
theorem ev_masks (l : List Bool) (hl : l.length ≤ 40) (d : Nat) : ∀ (i : Nat), i ≤ l.length → l.length - i = d → Ev (fun k => rudderlaw01_FixMasks.l0 k l (bitsI l) ((l.take i).countP id : Int) (i : Int)) true := by
  induction d with
  | zero =>
    intro i hi hd
    obtain rfl : i = l.length := by omega
    refine Ev.step (f := fun k => (rudderlaw01_alive.f k).bind _) (fun k => by rw [rudderlaw01_FixMasks.l0, if_neg (by omega)]) (Ev.bind ev_alive01 ?_)
    rw [List.take_length]
    by_cases h : (l.length : Int) > 16
    · simp only [if_true, if_pos h]
      exact Ev.now _
    · have hp : 2 ^ l.length ≤ 2 ^ 16 := Nat.pow_le_pow_right (by omega) (by omega)
      have hm := maskL_lt l
      simp only [if_true, if_neg h]
      have hc : fix_Count.f (bitsI l) = some (l.countP id : Int) := by
        rw [count_some, bitsI, if_pos (by omega), countI, if_pos (by omega), Int.toNat_natCast, pcn_mask 16 l (by omega)]
      rw [hc]
      simp only [Option.bind_some, beq_self_eq_true]
      exact Ev.now _
  | succ d ih =>
    intro i hi hd
    have hlt : i < l.length := by omega
    have h1 := ih (i + 1) (by omega) (by omega)
    rw [take_bool l i hlt, List.countP_append] at h1
    have hle : (l.take i).countP id ≤ i := Nat.le_trans List.countP_le_length (by simp; omega)
    have e3 : rdOf false l (i : Int) = l.getD i false := by simp [rdOf]
    refine Ev.step (fun k => ?_) h1
    rw [rudderlaw01_FixMasks.l0, if_pos (by omega), if_pos (by omega), e3, w64' (x := (i : Int) + 1) (by omega) (by omega), w64' (by omega) (by omega)]
    by_cases h : (l.length : Int) ≤ 16
    · have hh : fix_Has.f (bitsI l) (i : Int) = some (l.getD i false) := by rw [has_some, bitsI, if_pos (by omega), has_mask l (by omega) i hlt]
      rw [if_pos h, if_pos h, hh]
      cases l.getD i false <;> simp
    · rw [if_neg h, if_neg h]
      cases l.getD i false <;> simp

theorem FixMasks (l : List Bool) (m i : Int) : ∃ k, rudderlaw01_FixMasks.f k l m i = some true := by
  refine Ev.rounds (g := fun k => rudderlaw01_FixMasks.f k l m i) ?_
  unfold rudderlaw01_FixMasks.f
  by_cases h40 : (l.length : Int) > 40
  · simp only [if_pos h40]
    exact Ev.bind ev_alive01 (Ev.now _)
  · simp only [if_neg h40]
    refine Ev.bind (ev_bits l) ?_
    refine Ev.bind (ev_refbits l) ?_
    simp only [if_true]
    refine Ev.bind (g := fun _ => fix_Has.f m i) (a := hasB m i) ⟨0, fun _ _ => has_some m i⟩ ?_
    refine Ev.bind (ev_has m i) ?_
    simp only [bne_self_eq_false, if_neg (show ¬ (false = true) by simp)]
    refine Ev.bind (g := fun _ => fix_Count.f m) (a := countI m) ⟨0, fun _ _ => count_some m⟩ ?_
    refine Ev.bind (ev_count m) ?_
    simp only [bne_self_eq_false]
    have := ev_masks l (by omega) l.length 0 (by omega) (by omega)
    refine Ev.step (fun k => ?_) this
    rw [rudderlaw01_FixMasks.j0, if_neg (by simp)]
    rfl
end Go.Proofs.Ytdhmefdnpiidbaa.Pure

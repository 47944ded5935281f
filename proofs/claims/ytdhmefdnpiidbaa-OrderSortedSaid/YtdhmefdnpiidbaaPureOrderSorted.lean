/- For every list of at most 16 small numbers: sorted it rises, has each number as often as it came, and sorted again is as it was; its spread is the last less the first. -/
import Derived.Test.YtdhmefdnpiidbaaPOrderSortedx2
import Derived.Test.YtdhmefdnpiidbaaAlv02
namespace Go.Proofs.Ytdhmefdnpiidbaa.Pure
open Go.RowKit Go.Proofs.Ytdhmefdnpiidbaa.POrderSorted Go.Proofs.YtdhmefdnpiidbaaW.PrintWords Go.Proofs.YtdhmefdnpiidbaaW.PrintLast
open Go.Proofs.Ytdhmefdnpiidbaa.Base Go.Proofs.Ytdhmefdnpiidbaa.Ord Go.Proofs.Ytdhmefdnpiidbaa.Ref Go.Proofs.Ytdhmefdnpiidbaa.Al02

theorem asc_sorted_ok (l : List Int) (h : okB l = true) : okB (sortI l) = true := by
  unfold okB at *
  simp only [Bool.and_eq_true, Bool.not_eq_true', List.any_eq_false, decide_eq_true_eq] at *
  exact ⟨by rw [sortI_length]; exact h.1, fun x hx => h.2 x ((sortI_perm l).mem_iff.1 hx)⟩

theorem count_drop (l : List Int) (v : Int) (j : Nat) (h : j < l.length) : (l.drop j).count v = (l.drop (j + 1)).count v + if gx l j = v then 1 else 0 := by
  rw [drop_cons l j h, List.count_cons]
  by_cases e : gx l j = v <;> simp [e]

/-- The counts of a number, from place j on. -/
theorem ev_count (l s : List Int) (hs : s.length = l.length) (hm : l.length ≤ 1000) (i : Nat) (hi : i < l.length) (r : Bool) (d : Nat) : ∀ (j x y : Nat), j ≤ l.length → l.length - j = d → x ≤ j → y ≤ j →
    Ev (fun k => rudderlaw02_OrderSorted.l1 k l s (i : Int) ((x + (l.drop j).count (gx l i) : Nat) : Int) ((y + (s.drop j).count (gx l i) : Nat) : Int) (l.length : Int)) r →
    Ev (fun k => rudderlaw02_OrderSorted.l1 k l s (i : Int) (x : Int) (y : Int) (j : Int)) r := by
  induction d with
  | zero =>
    intro j x y hj hd hx hy hr
    obtain rfl : j = l.length := by omega
    rw [List.drop_length, show s.drop l.length = [] by rw [← hs]; exact List.drop_length] at hr
    simpa using hr
  | succ d ih =>
    intro j x y hj hd hx hy hr
    have hlt : j < l.length := by omega
    rw [count_drop l _ j hlt, count_drop s _ j (by omega)] at hr
    by_cases e1 : gx l j = gx l i <;> by_cases e2 : gx s j = gx l i
    · have h1 := ih (j + 1) (x + 1) (y + 1) (by omega) (by omega) (by omega) (by omega) (by simpa [e1, e2, Nat.add_assoc, Nat.add_comm, Nat.add_left_comm] using hr)
      refine Ev.step (fun k => ?_) h1
      rw [rudderlaw02_OrderSorted.l1, if_pos (by omega), if_pos (by omega), if_pos (by omega), if_pos (by omega), rd_nat, rd_nat, if_pos e1, if_pos (by omega), rd_nat, if_pos e2, w64 (by omega) (by omega), w64 (by omega) (by omega), w64 (by omega) (by omega)]
      rfl
    · have h1 := ih (j + 1) (x + 1) y (by omega) (by omega) (by omega) (by omega) (by simpa [e1, e2, Nat.add_assoc, Nat.add_comm, Nat.add_left_comm] using hr)
      refine Ev.step (fun k => ?_) h1
      rw [rudderlaw02_OrderSorted.l1, if_pos (by omega), if_pos (by omega), if_pos (by omega), if_pos (by omega), rd_nat, rd_nat, if_pos e1, if_pos (by omega), rd_nat, if_neg e2, w64 (by omega) (by omega), w64 (by omega) (by omega)]
      rfl
    · have h1 := ih (j + 1) x (y + 1) (by omega) (by omega) (by omega) (by omega) (by simpa [e1, e2, Nat.add_assoc, Nat.add_comm, Nat.add_left_comm] using hr)
      refine Ev.step (fun k => ?_) h1
      rw [rudderlaw02_OrderSorted.l1, if_pos (by omega), if_pos (by omega), if_pos (by omega), if_pos (by omega), rd_nat, rd_nat, if_neg e1, if_pos (by omega), rd_nat, if_pos e2, w64 (by omega) (by omega), w64 (by omega) (by omega)]
      rfl
    · have h1 := ih (j + 1) x y (by omega) (by omega) (by omega) (by omega) (by simpa [e1, e2, Nat.add_assoc, Nat.add_comm, Nat.add_left_comm] using hr)
      refine Ev.step (fun k => ?_) h1
      rw [rudderlaw02_OrderSorted.l1, if_pos (by omega), if_pos (by omega), if_pos (by omega), if_pos (by omega), rd_nat, rd_nat, if_neg e1, if_pos (by omega), rd_nat, if_neg e2, w64 (by omega) (by omega)]
      rfl

theorem ev_outer (l : List Int) (h : okB l = true) (d : Nat) : ∀ i, i ≤ l.length → l.length - i = d → Ev (fun k => rudderlaw02_OrderSorted.l0 k l (sortI l) (i : Int)) true := by
  have hl : l.length ≤ 1000 := by unfold okB at h; simp at h; omega
  have hlen := sortI_length l
  induction d with
  | zero =>
    intro i hi hd
    obtain rfl : i = l.length := by omega
    refine Ev.step (f := fun k => (order_Sort.f (sortI l)).bind _) (fun k => by rw [rudderlaw02_OrderSorted.l0, if_neg (by omega)]) ?_
    refine Ev.bind (g := fun _ => order_Sort.f (sortI l)) (Ev.now _) ?_
    rw [if_pos (asc_sorted_ok l h), sortI_of_asc (sortI_asc l)]
    refine Ev.bind (ev_ints _ _ (by omega)) ?_
    refine Ev.bind ev_alive ?_
    simp only [if_true, decide_true]
    by_cases h0 : 0 < l.length
    · rw [hlen]
      simp only [if_neg (show ¬ (l.length : Int) = 0 by omega)]
      refine Ev.bind (g := fun _ => order_Spread.f l) (Ev.now _) ?_
      rw [w64 (x := (l.length : Int) - 1) (by omega) (by omega), if_pos (by omega), if_pos (by omega), if_pos (by omega), if_pos ⟨h, h0⟩]
      have e0 : rd (sortI l) 0 = gx (sortI l) 0 := rd_nat _ 0
      have e1 : rd (sortI l) ((l.length : Int) - 1) = gx (sortI l) (l.length - 1) := by
        rw [show (l.length : Int) - 1 = ((l.length - 1 : Nat) : Int) by omega, rd_nat]
      have b0 := gx_small h 0 h0
      have b1 := gx_small h (l.length - 1) (by omega)
      rw [e0, e1, w64 (by omega) (by omega)]
      simp only [spreadI, beq_self_eq_true]
      exact Ev.now _
    · rw [hlen]
      simp only [if_pos (show (l.length : Int) = 0 by omega)]
      exact Ev.now _
  | succ d ih =>
    intro i hi hd
    have hlt : i < l.length := by omega
    refine Ev.step (f := fun k => rudderlaw02_OrderSorted.l1 k l (sortI l) (i : Int) ((0 : Nat) : Int) ((0 : Nat) : Int) ((0 : Nat) : Int)) (fun k => by rw [rudderlaw02_OrderSorted.l0, if_pos (by omega)]; rfl) ?_
    refine ev_count l (sortI l) hlen hl i hlt true _ 0 0 0 (by omega) rfl (by omega) (by omega) ?_
    have h1 := ih (i + 1) (by omega) (by omega)
    refine Ev.step (fun k => ?_) h1
    rw [rudderlaw02_OrderSorted.l1, if_neg (by omega), List.drop_zero, List.drop_zero, (sortI_perm l).count_eq, if_pos rfl]
    by_cases h0 : (i : Int) > 0
    · have hle := asc_step (sortI_asc l) (i - 1) i (by omega) (by omega)
      rw [if_pos h0, w64 (x := (i : Int) - 1) (by omega) (by omega), if_pos (by omega), if_pos (by omega), if_pos (by omega), if_pos (by omega), show (i : Int) - 1 = ((i - 1 : Nat) : Int) by omega, rd_nat, rd_nat, if_neg (by omega), w64 (by omega) (by omega)]
      rfl
    · rw [if_neg h0, w64 (by omega) (by omega)]
      rfl

theorem OrderSorted : rudderlaw02_OrderSorted.Pure := by
  intro l _ h8 _
  have hm : l.length ≤ 140737488351232 := by omega
  refine Ev.rounds (g := fun k => rudderlaw02_OrderSorted.f k l) ?_
  unfold rudderlaw02_OrderSorted.f
  refine Ev.bind (ev_right l hm) ?_
  by_cases h : okB l = true
  · simp only [if_pos h]
    refine Ev.bind (g := fun _ => order_Sort.f l) (Ev.now _) ?_
    rw [if_pos h, sortI_length]
    simp only [if_true]
    exact ev_outer l h l.length 0 (by omega) (by omega)
  · simp only [if_neg h]
    exact Ev.bind ev_alive (Ev.now _)

end Go.Proofs.Ytdhmefdnpiidbaa.Pure

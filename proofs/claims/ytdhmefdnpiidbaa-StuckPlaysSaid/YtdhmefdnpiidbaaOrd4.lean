/- order.Without: a list without one element. -/
import Derived.Test.YtdhmefdnpiidbaaOrd3
import Derived.Test.YtdhmefdnpiidbaaDel
namespace Go.Proofs.Ytdhmefdnpiidbaa.Ord
open Go.RowKit Go.Proofs.YtdhmefdnpiidbaaW.PrintWords Go.Proofs.YtdhmefdnpiidbaaW.PrintLast Go.Proofs.YtdhmefdnpiidbaaW.PrintMore
open Go.Proofs.Ytdhmefdnpiidbaa.Base (info3)

def dropI (l : List Int) (i : Nat) : List Int := l.take i ++ l.drop (i + 1)

/-- slices.Delete of one element, in a list that the call owns. -/
theorem delete_own (B : Nat) (v : Value) (l : List Int) (i : Nat) (w0 w : World) (hv : Kd.R (Kd.int .i64) 3 w B (fun _ => True) v l) (hB : Below B w0 w) (hi : i < l.length) :
    Calls Try.prog 77 #[v, .int .i64 (i : Int), .int .i64 ((i + 1 : Nat) : Int)] w fun e w' => ∃ v', e = .returned v' ∧ Kd.R (Kd.int .i64) 3 w' B (fun _ => True) v' (dropI l i) ∧ Below B w0 w' := by
  have ho := Kd.own_of_R hv
  obtain ⟨hl1, ho⟩ := ho
  rcases ho with ⟨_, h0⟩ | ⟨g, cap, cur, rfl, hBg, hg, hnc, hcm, hcs, hcur⟩
  · omega
  have hcell : ∀ j, j < l.length → w.cell? ⟨g, 0 + j, none⟩ = some (.int .i64 (l.getD j 0)) := by
    intro j hj
    have h2 := (Kd.R_cell (0 : Int) hv (j : Int) (by omega) (by omega)).1
    simpa [rdOf] using h2
  have hc := Try.slices_Delete_int_cells g 0 l.length cap i (i + 1) l w (Nat.le_refl _) hnc (by unfold maxLen at hcm; omega) (by omega) (by omega) hcell (fun j _ => blk_frozen hg _)
  refine hc.mono ?_
  rintro e w' ⟨rfl, q, rfl⟩
  have hlen : (dropI l i).length = l.length - (i + 1 - i) := by simp [dropI]; omega
  obtain ⟨cur', h1, h2, h3⟩ := setCells_row (((l.take l.length).take i ++ (l.take l.length).drop (i + 1) ++ List.replicate (i + 1 - i) 0).map (Value.int .i64)) 0 (w.drewN q) cur hg (by simp; omega)
  obtain ⟨s1, s2, s3, s4⟩ := setCells_same g (((l.take l.length).take i ++ (l.take l.length).drop (i + 1) ++ List.replicate (i + 1 - i) 0).map (Value.int .i64)) 0 (w.drewN q)
  refine ⟨_, rfl, ?_, ?_⟩
  · rw [← hlen]
    refine Kd.R_of_own ⟨by simp [encs], .inr ⟨g, cap, cur', rfl, hBg, h1, by omega, hcm, by rw [h2]; exact hcs, ?_⟩⟩ (fun _ _ => trivial)
    rw [h3]
    have : ((l.take l.length).take i ++ (l.take l.length).drop (i + 1) ++ List.replicate (i + 1 - i) 0).map (Value.int .i64) = encs (Value.int .i64) (dropI l i) ++ [Value.int .i64 0] := by
      rw [List.take_length, show i + 1 - i = 1 by omega]
      simp [encs, dropI]
    rw [this]
    simp [encs]
  · exact hB.trans ⟨s1, s2, s3, by rw [s4]; exact Nat.le_refl _, fun k hk => setCells_far _ _ k (by omega)⟩

theorem without_in (A : Option Addr) (c : Nat) (l : List Int) (k : Nat) (w : World) (hr : Kd.C (Kd.int .i64) w A l.length l) (hok : okB l = true) (hk : k < l.length) :
    Calls Try.prog 27 #[.slice A l.length c, .int .i64 k] w fun e w' => ∃ v, e = .returned v ∧ Kd.R (Kd.int .i64) 3 w' w.heap.size (fun _ => True) v (dropI l k) ∧ Below w.heap.size w w' := by
  have hlen : l.length ≤ 16 := by unfold okB at hok; simp at hok; exact hok.1
  have HR := Aside0.mk hr
  have HOK := Aside0.mk hok
  clear hr hok
  go_enter Try.func27, Try.ntmps27
  go_wp2_with (first
    | (go_at_call 73; refine (right_any _ _ _ _ HR.out).mono ?_; rw [HOK.out]; rintro e w' ⟨rfl, rfl⟩)
    | (go_at_call 76; refine (clone_any _ _ _ _ HR.out (by omega)).mono ?_; rintro e w1 ⟨v, rfl, HV, HB⟩; have HV1 := Aside0.mk HV; have HB1 := Aside0.mk HB; clear HV HB)
    | (go_at_call 77; refine (delete_own _ _ _ k _ _ HV1.out HB1.out hk).mono ?_; rintro e w2 ⟨v2, rfl, HV, HB⟩; have HV2 := Aside0.mk HV; have HB2 := Aside0.mk HB; clear HV HB))
  go_ret
  exact ⟨_, rfl, HV2.out, HB2.out⟩
theorem without_out (A : Option Addr) (c : Nat) (l : List Int) (i : Int) (w : World) (hr : Kd.C (Kd.int .i64) w A l.length l) (hok : okB l = true) (hi : i < 0 ∨ l.length ≤ i) :
    Calls Try.prog 27 #[.slice A l.length c, .int .i64 i] w fun e w' => ∃ v, e = .returned v ∧ Kd.R (Kd.int .i64) 3 w' w.heap.size (fun _ => True) v l ∧ Below w.heap.size w w' := by
  have hlen : l.length ≤ 16 := by unfold okB at hok; simp at hok; exact hok.1
  have HR := Aside0.mk hr
  have HOK := Aside0.mk hok
  clear hr hok
  by_cases h0 : i < 0
  · clear hi
    go_enter Try.func27, Try.ntmps27
    go_wp2_with (first
      | (go_at_call 73; refine (right_any _ _ _ _ HR.out).mono ?_; rw [HOK.out]; rintro e w' ⟨rfl, rfl⟩)
      | (go_at_call 76; refine (clone_any _ _ _ _ HR.out (by omega)).mono ?_; rintro e w1 ⟨v, rfl, HV, HB⟩; have HV1 := Aside0.mk HV; have HB1 := Aside0.mk HB; clear HV HB))
    go_ret
    exact ⟨_, rfl, HV1.out, HB1.out⟩
  · have h1 : (l.length : Int) ≤ i := by omega
    clear hi
    go_enter Try.func27, Try.ntmps27
    go_wp2_with (first
      | (go_at_call 73; refine (right_any _ _ _ _ HR.out).mono ?_; rw [HOK.out]; rintro e w' ⟨rfl, rfl⟩)
      | (go_at_call 76; refine (clone_any _ _ _ _ HR.out (by omega)).mono ?_; rintro e w1 ⟨v, rfl, HV, HB⟩; have HV1 := Aside0.mk HV; have HB1 := Aside0.mk HB; clear HV HB))
    go_ret
    exact ⟨_, rfl, HV1.out, HB1.out⟩
theorem without_no (A : Option Addr) (c : Nat) (l : List Int) (i : Int) (w : World) (hr : Kd.C (Kd.int .i64) w A l.length l) (hok : okB l = false) :
    Calls Try.prog 27 #[.slice A l.length c, .int .i64 i] w fun e w' => e = .returned (.slice none 0 0) ∧ w = w' := by
  have HR := Aside0.mk hr
  have HOK := Aside0.mk hok
  clear hr hok
  go_enter Try.func27, Try.ntmps27
  go_wp2_with (go_at_call 73; refine (right_any _ _ _ _ HR.out).mono ?_; rw [HOK.out]; rintro e w' ⟨rfl, rfl⟩)
  go_ret
  exact ⟨rfl, rfl⟩

def withoutI (l : List Int) (i : Int) : List Int := if 0 ≤ i ∧ i < l.length then dropI l i.toNat else l
def order_Without.f (l : List Int) (i : Int) : Option (List Int) := some (if okB l = true then withoutI l i else [])
theorem order_Without.calls (A0 : Option Addr) (c0 : Nat) (l0 : List Int) (a1 : Int) (r : List Int) (w : World) (hr0 : Kd.C (Kd.int .i64) w A0 l0.length l0) (_hc0 : l0.length ≤ c0) (h : order_Without.f l0 a1 = some r) :
    Calls Try.prog 27 #[.slice A0 l0.length c0, .int .i64 a1] w fun e w' => ∃ v0_ : Value, e = .returned (v0_) ∧ Kd.R (Kd.int .i64) 3 w' w.heap.size (fun _ => True) v0_ r ∧ Below w.heap.size w w' := by
  obtain rfl := Option.some.inj h
  by_cases hok : okB l0 = true
  · rw [if_pos hok]
    unfold withoutI
    by_cases hi : 0 ≤ a1 ∧ a1 < l0.length
    · rw [if_pos hi]
      obtain ⟨k, rfl⟩ := Int.eq_ofNat_of_zero_le hi.1
      rw [Int.toNat_natCast]
      exact without_in A0 c0 l0 k w hr0 hok (by omega)
    · rw [if_neg hi]
      exact without_out A0 c0 l0 a1 w hr0 hok (by omega)
  · rw [if_neg hok]
    exact (without_no A0 c0 l0 a1 w hr0 (by simpa using hok)).mono fun e w' ⟨he, hw⟩ => ⟨_, he, Kd.R_nil _ _ _ _ _, hw ▸ Below.refl _ _⟩
end Go.Proofs.Ytdhmefdnpiidbaa.Ord

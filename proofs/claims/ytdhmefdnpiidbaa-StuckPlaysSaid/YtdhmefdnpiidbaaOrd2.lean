/- order.Mid: the mid of one to four small numbers. -/
import Derived.Test.YtdhmefdnpiidbaaOrd1
namespace Go.Proofs.Ytdhmefdnpiidbaa.Ord
open Go.RowKit Go.Proofs.YtdhmefdnpiidbaaW.PrintWords Go.Proofs.YtdhmefdnpiidbaaW.PrintLast Go.Proofs.YtdhmefdnpiidbaaW.PrintMore
open Go.Proofs.Ytdhmefdnpiidbaa.Base (info3)

def midI (s : List Int) : Int := (gx s ((s.length - 1) / 2) + gx s (s.length / 2)) / 2
def midB (l : List Int) : Bool := okB l && decide (1 ≤ l.length) && decide (l.length ≤ 4)
def order_Mid.f (l : List Int) : Option (Int × Bool) := some (if midB l = true then (midI (sortI l), true) else (0, false))

theorem ok_small {l : List Int} (h : okB l = true) : ∀ x ∈ l, -1099511627776 ≤ x ∧ x ≤ 1099511627776 := by
  intro x hx
  unfold okB at h
  simp only [Bool.and_eq_true, Bool.not_eq_true', List.any_eq_false] at h
  have := h.2 x hx
  unfold bigB at this
  simp at this
  omega
theorem gx_mem (l : List Int) (j : Nat) (h : j < l.length) : gx l j ∈ l := by rw [gx_lt l j h]; exact List.getElem_mem h
theorem gx_small {l : List Int} (h : okB l = true) (j : Nat) (hj : j < l.length) : -1099511627776 ≤ gx (sortI l) j ∧ gx (sortI l) j ≤ 1099511627776 :=
  ok_small h _ ((sortI_perm l).mem_iff.1 (gx_mem _ _ (by rw [sortI_length]; exact hj)))

/-- What a caller reads in the sorted list. -/
def SortedAt (l : List Int) (w : World) (g : Nat) : Prop := ∀ j, j < l.length → w.cell? ⟨g, j, none⟩ = some (.int .i64 (gx (sortI l) j))
theorem sort_reads (A : Option Addr) (c : Nat) (l : List Int) (w : World) (hr : Kd.C (Kd.int .i64) w A l.length l) (hok : okB l = true) (h1 : 1 ≤ l.length) :
    Calls Try.prog 21 #[.slice A l.length c] w fun e w' => ∃ g cap : Nat, e = .returned (.slice (some ⟨g, 0, none⟩) l.length cap) ∧ SortedAt l w' g ∧ Below w.heap.size w w' := by
  refine (sort_ok A c l w hr hok).mono ?_
  rintro e w' ⟨v, rfl, HV, HB⟩
  obtain ⟨g, cap, rfl, _, _, _⟩ := Kd.R_form HV (by rw [sortI_length]; omega)
  refine ⟨g, cap, by rw [sortI_length], fun j hj => ?_, HB⟩
  have := (Kd.R_cell (0 : Int) HV (j : Int) (by omega) (by rw [sortI_length]; omega)).1
  simpa [gx, rdOf] using this

set_option maxRecDepth 100000 in
set_option maxHeartbeats 1000000 in
theorem mid_ok (A : Option Addr) (c : Nat) (l : List Int) (w : World) (hr : Kd.C (Kd.int .i64) w A l.length l) (hok : okB l = true) (h1 : 1 ≤ l.length) (h4 : l.length ≤ 4) :
    Calls Try.prog 20 #[.slice A l.length c] w fun e w' => e = .returned (.tuple #[.int .i64 (midI (sortI l)), .bool true]) ∧ Below w.heap.size w w' := by
  have b1 := gx_small hok ((l.length - 1) / 2) (by omega)
  have b2 := gx_small hok (l.length / 2) (by omega)
  have HR := Aside0.mk hr
  have HOK := Aside0.mk hok
  clear hr hok
  have e1 : IntKind.i64.wrap ((l.length : Int) - 1) = (l.length : Int) - 1 := IntWalk.i64_in _ (by omega)
  have e2 : 0 ≤ (l.length : Int) - 1 := by omega
  have q1 : (((l.length : Int) - 1) / 2).toNat = (l.length - 1) / 2 := by omega
  have q2 : ((l.length : Int) / 2).toNat = l.length / 2 := by omega
  have q3 : 0 ≤ ((l.length : Int) - 1) / 2 := by omega
  have q4 : ((l.length : Int) - 1) / 2 < l.length := by omega
  have q5 : (l.length : Int) / 2 < l.length := by omega
  go_enter Try.func20, Try.ntmps20
  go_wp2_with (first
    | (go_at_call 73; refine (right_any _ _ _ _ HR.out).mono ?_; rw [HOK.out]; rintro e w' ⟨rfl, rfl⟩)
    | (go_at_call 21; refine (sort_reads _ _ _ _ HR.out HOK.out h1).mono ?_; rintro e w1 ⟨g, cap, rfl, HS, HB⟩; have HB1 := Aside0.mk HB; clear HB))
  have c1 := HS ((l.length - 1) / 2) (by omega)
  have c2 := HS (l.length / 2) (by omega)
  clear HS
  have hm : midI (sortI l) = (gx (sortI l) ((l.length - 1) / 2) + gx (sortI l) (l.length / 2)) / 2 := by unfold midI; rw [sortI_length]
  have HM := Aside0.mk hm
  clear hm
  go_quiet (fail)
  go_wp2
  go_ret2
  refine ⟨?_, pw_below_drewN HB1.out _⟩
  rw [HM.out]
  rfl

theorem mid_no (A : Option Addr) (c : Nat) (l : List Int) (w : World) (hr : Kd.C (Kd.int .i64) w A l.length l) (hok : okB l = false) :
    Calls Try.prog 20 #[.slice A l.length c] w fun e w' => e = .returned (.tuple #[.int .i64 0, .bool false]) ∧ w = w' := by
  have HR := Aside0.mk hr
  have HOK := Aside0.mk hok
  clear hr hok
  go_enter Try.func20, Try.ntmps20
  go_wp2_with (go_at_call 73; refine (right_any _ _ _ _ HR.out).mono ?_; rw [HOK.out]; rintro e w' ⟨rfl, rfl⟩)
  go_ret2
  exact ⟨rfl, rfl⟩
theorem mid_len (A : Option Addr) (c : Nat) (l : List Int) (w : World) (hr : Kd.C (Kd.int .i64) w A l.length l) (hok : okB l = true) (h : l.length < 1 ∨ 4 < l.length) :
    Calls Try.prog 20 #[.slice A l.length c] w fun e w' => e = .returned (.tuple #[.int .i64 0, .bool false]) ∧ w = w' := by
  have HR := Aside0.mk hr
  have HOK := Aside0.mk hok
  clear hr hok
  rcases Nat.lt_or_ge l.length 1 with h1 | h1
  · clear h
    go_enter Try.func20, Try.ntmps20
    go_wp2_with (go_at_call 73; refine (right_any _ _ _ _ HR.out).mono ?_; rw [HOK.out]; rintro e w' ⟨rfl, rfl⟩)
    go_ret2
    exact ⟨rfl, rfl⟩
  · have h2 : 4 < l.length := by omega
    clear h
    go_enter Try.func20, Try.ntmps20
    go_wp2_with (go_at_call 73; refine (right_any _ _ _ _ HR.out).mono ?_; rw [HOK.out]; rintro e w' ⟨rfl, rfl⟩)
    go_ret2
    exact ⟨rfl, rfl⟩

theorem order_Mid.calls (A0 : Option Addr) (c0 : Nat) (l0 : List Int) (r1 : Int) (r2 : Bool) (w : World) (hr0 : Kd.C (Kd.int .i64) w A0 l0.length l0) (_hc0 : l0.length ≤ c0) (h : order_Mid.f l0 = some (r1, r2)) :
    Calls Try.prog 20 #[.slice A0 l0.length c0] w fun e w' => e = .returned (.tuple #[.int .i64 r1, .bool r2]) ∧ Below w.heap.size w w' := by
  have h' := Option.some.inj h
  unfold midB at h'
  by_cases hok : okB l0 = true
  · by_cases h1 : 1 ≤ l0.length
    · by_cases h4 : l0.length ≤ 4
      · rw [if_pos (by simp [hok, h1, h4])] at h'
        obtain ⟨rfl, rfl⟩ := Prod.mk.inj h'
        exact mid_ok A0 c0 l0 w hr0 hok h1 h4
      · rw [if_neg (by simp [h4])] at h'
        obtain ⟨rfl, rfl⟩ := Prod.mk.inj h'
        exact (mid_len A0 c0 l0 w hr0 hok (by omega)).mono fun e w' ⟨he, hw⟩ => ⟨he, hw ▸ Below.refl _ _⟩
    · rw [if_neg (by simp [h1])] at h'
      obtain ⟨rfl, rfl⟩ := Prod.mk.inj h'
      exact (mid_len A0 c0 l0 w hr0 hok (by omega)).mono fun e w' ⟨he, hw⟩ => ⟨he, hw ▸ Below.refl _ _⟩
  · rw [if_neg (by simp [hok])] at h'
    obtain ⟨rfl, rfl⟩ := Prod.mk.inj h'
    exact (mid_no A0 c0 l0 w hr0 (by simpa using hok)).mono fun e w' ⟨he, hw⟩ => ⟨he, hw ▸ Below.refl _ _⟩
end Go.Proofs.Ytdhmefdnpiidbaa.Ord

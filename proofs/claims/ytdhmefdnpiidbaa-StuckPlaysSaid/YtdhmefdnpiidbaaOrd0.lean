/- order.right: a list is of at most 16 small numbers. -/
import Derived.Test.YtdhmefdnpiidbaaBasex0
namespace Go.Proofs.Ytdhmefdnpiidbaa.Ord
open Go.RowKit Go.Proofs.YtdhmefdnpiidbaaW.PrintWords Go.Proofs.YtdhmefdnpiidbaaW.PrintLast Go.Proofs.YtdhmefdnpiidbaaW.PrintMore

def bigB (n : Int) : Bool := decide (n < -1099511627776) || decide (1099511627776 < n)

theorem ret_int {k : IntKind} {a b : Int} (h : a = b) : Ending.returned (.int k a) = .returned (.int k b) := by rw [h]
theorem ret_bool {a b : Bool} (h : a = b) : Ending.returned (.bool a) = .returned (.bool b) := by rw [h]
theorem big_yes1 (n : Int) (w : World) (h : n < -1099511627776) : Calls Try.prog 98 #[.int .i64 n] w fun e w' => e = .returned (.bool true) ∧ w = w' := by
  go_enter Try.func98, Try.ntmps98
  go_wp2
  go_ret
  exact ⟨rfl, rfl⟩
theorem big_yes2 (n : Int) (w : World) (h0 : ¬ n < -1099511627776) (h : 1099511627776 < n) : Calls Try.prog 98 #[.int .i64 n] w fun e w' => e = .returned (.bool true) ∧ w = w' := by
  go_enter Try.func98, Try.ntmps98
  go_wp2
  go_ret
  exact ⟨rfl, rfl⟩
theorem big_no (n : Int) (w : World) (h0 : ¬ n < -1099511627776) (h : ¬ 1099511627776 < n) : Calls Try.prog 98 #[.int .i64 n] w fun e w' => e = .returned (.bool false) ∧ w = w' := by
  go_enter Try.func98, Try.ntmps98
  go_wp2
  go_ret
  exact ⟨rfl, rfl⟩
theorem big_any (n : Int) (w : World) : Calls Try.prog 98 #[.int .i64 n] w fun e w' => e = .returned (.bool (bigB n)) ∧ w = w' := by
  unfold bigB
  by_cases h : n < -1099511627776
  · simpa [h] using big_yes1 n w h
  · by_cases h1 : 1099511627776 < n
    · simpa [h, h1] using big_yes2 n w h h1
    · simpa [h, h1] using big_no n w h h1
theorem big_at (n : Int) (w : World) {b : Bool} (h : bigB n = b) : Calls Try.prog 98 #[.int .i64 n] w fun e w' => e = .returned (.bool b) ∧ w = w' := h ▸ big_any n w

def idxBig (l : List Int) : Int := match l.findIdx? bigB with | some i => (i : Int) | none => -1

theorem idx_some (l : List Int) (k : Nat) (hk : k < l.length) (hb : bigB (rd l k) = true) (hlt : ∀ j : Nat, j < k → bigB (rd l j) = false) : idxBig l = k := by
  have e : l.findIdx? bigB = some k := by
    rw [List.findIdx?_eq_some_iff_getElem]
    refine ⟨hk, ?_, fun j hj => ?_⟩
    · simpa [rd, hk] using hb
    · have := hlt j hj
      simpa [rd, show j < l.length by omega] using this
  simp [idxBig, e]
theorem idx_none (l : List Int) (hlt : ∀ j : Nat, j < l.length → bigB (rd l j) = false) : idxBig l = -1 := by
  have e : l.findIdx? bigB = none := by
    rw [List.findIdx?_eq_none_iff]
    intro x hx
    obtain ⟨j, hj, rfl⟩ := List.mem_iff_getElem.1 hx
    simpa [rd, hj] using hlt j hj
  simp [idxBig, e]
theorem idx_pos {l : List Int} (h : l.any bigB = true) : 0 ≤ idxBig l := by
  unfold idxBig
  split
  · omega
  · rename_i e
    rw [List.findIdx?_eq_none_iff] at e
    obtain ⟨x, hx, hb⟩ := List.any_eq_true.1 h
    simp [e x hx] at hb
theorem idx_neg {l : List Int} (h : l.any bigB = false) : idxBig l = -1 := by
  refine idx_none l fun j hj => ?_
  have := (List.any_eq_false.1 h) (rd l j) (by simp [rd, List.getD_eq_getElem?_getD, List.getElem?_eq_getElem hj])
  simpa using this
def NoneTo (l : List Int) (k : Nat) : Prop := ∀ j : Nat, j < k → bigB (rd l j) = false

set_option maxHeartbeats 1000000 in
theorem index_any (A : Option Addr) (c : Nat) (l : List Int) (w : World) (hr : Kd.C (Kd.int .i64) w A l.length l) :
    Calls Try.prog 103 #[.slice A l.length c, .func (.func 98) #[] #[]] w fun e w' => e = .returned (.int .i64 (idxBig l)) ∧ w = w' := by
  have hmax := Kd.C_max hr
  have HR := Aside0.mk hr
  clear hr
  go_enter Try.func103, Try.ntmps103
  go_wp2
  go_loop [5, 8] (fun _ i => ∃ k : Nat, k ≤ l.length ∧ i = .int .i64 k ∧ NoneTo l k) (fun _ i => l.length - (intOf i).toNat)
  case atStart => exact ⟨0, Nat.zero_le _, rfl, fun j hj => absurd hj (by omega)⟩
  case round =>
    obtain ⟨k, hk, rfl, hn⟩ := hrel
    by_cases hlt : k < l.length
    · obtain ⟨ad, ead, hcell⟩ := Kd.at_int HR.out k (by omega) (by omega)
      cases ead
      simp only [Int.toNat_natCast] at hcell
      cases hb : bigB (rd l k) with
      | true =>
        have HB := Aside0.mk hb
        clear hb
        go_wp2_with (go_at_call 98; refine (big_at _ _ HB.out).mono ?_; rintro e w' ⟨rfl, rfl⟩)
        go_ret
        exact ⟨ret_int (idx_some l k hlt HB.out hn).symm, rfl⟩
      | false =>
        have HB := Aside0.mk hb
        clear hb
        go_wp2_with (go_at_call 98; refine (big_at _ _ HB.out).mono ?_; rintro e w' ⟨rfl, rfl⟩)
        go_round
        case rel => exact ⟨k + 1, by omega, by go_num, fun j hj => by
          rcases Nat.lt_succ_iff_lt_or_eq.1 hj with h | h
          · exact hn j h
          · subst h; exact HB.out⟩
        case measure => simp [intOf]; omega
    · go_wp2
      go_ret
      exact ⟨ret_int (idx_none l (fun j hj => hn j (by omega))).symm, rfl⟩

theorem contains_any (A : Option Addr) (c : Nat) (l : List Int) (w : World) (hr : Kd.C (Kd.int .i64) w A l.length l) :
    Calls Try.prog 90 #[.slice A l.length c, .func (.func 98) #[] #[]] w fun e w' => e = .returned (.bool (l.any bigB)) ∧ w = w' := by
  have HR := Aside0.mk hr
  clear hr
  go_enter Try.func90, Try.ntmps90
  cases hb : l.any bigB with
  | true =>
    have h0 : 0 ≤ idxBig l := idx_pos hb
    have h1 : decide (0 ≤ idxBig l) = true := decide_eq_true h0
    clear hb h0
    go_wp2_with (go_at_call 103; refine (index_any _ _ _ _ HR.out).mono ?_; rintro e w' ⟨rfl, rfl⟩)
    go_ret
    exact ⟨rfl, rfl⟩
  | false =>
    have h1 : idxBig l = -1 := idx_neg hb
    have h2 : decide (0 ≤ idxBig l) = false := by rw [h1]; rfl
    clear hb h1
    go_wp2_with (go_at_call 103; refine (index_any _ _ _ _ HR.out).mono ?_; rintro e w' ⟨rfl, rfl⟩)
    go_ret
    exact ⟨rfl, rfl⟩

/-- May the list be? -/
def okB (l : List Int) : Bool := decide (l.length ≤ 16) && !(l.any bigB)

theorem right_any (A : Option Addr) (c : Nat) (l : List Int) (w : World) (hr : Kd.C (Kd.int .i64) w A l.length l) :
    Calls Try.prog 73 #[.slice A l.length c] w fun e w' => e = .returned (.bool (okB l)) ∧ w = w' := by
  have HR := Aside0.mk hr
  clear hr
  by_cases hle : l.length ≤ 16
  · cases hb : l.any bigB with
    | true =>
      have ho : okB l = false := by simp [okB, hb]
      have HO := Aside0.mk ho
      have HB := Aside0.mk hb
      clear ho hb
      go_enter Try.func73, Try.ntmps73
      go_wp2_with (go_at_call 90; refine (contains_any _ _ _ _ HR.out).mono ?_; rw [HB.out]; rintro e w' ⟨rfl, rfl⟩)
      go_ret
      exact ⟨ret_bool HO.out.symm, rfl⟩
    | false =>
      have ho : okB l = true := by simp [okB, hb, hle]
      have HO := Aside0.mk ho
      have HB := Aside0.mk hb
      clear ho hb
      go_enter Try.func73, Try.ntmps73
      go_wp2_with (go_at_call 90; refine (contains_any _ _ _ _ HR.out).mono ?_; rw [HB.out]; rintro e w' ⟨rfl, rfl⟩)
      go_ret
      exact ⟨ret_bool HO.out.symm, rfl⟩
  · have ho : okB l = false := by simp [okB, hle]
    have HO := Aside0.mk ho
    clear ho
    go_enter Try.func73, Try.ntmps73
    go_wp2
    go_ret
    exact ⟨ret_bool HO.out.symm, rfl⟩
end Go.Proofs.Ytdhmefdnpiidbaa.Ord

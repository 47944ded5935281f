/- slices.Clone, slices.Max, slices.Min at whole numbers; order.Spread. -/
import Derived.Test.YtdhmefdnpiidbaaOrd2
import Derived.WalkSpells
namespace Go.Proofs.Ytdhmefdnpiidbaa.Ord
open Go.RowKit Go.Proofs.YtdhmefdnpiidbaaW.PrintWords Go.Proofs.YtdhmefdnpiidbaaW.PrintLast Go.Proofs.YtdhmefdnpiidbaaW.PrintMore
open Go.Proofs.Ytdhmefdnpiidbaa.Base (info3)

theorem clone_some (ad : Addr) (c : Nat) (l : List Int) (w : World) (hr : Kd.C (Kd.int .i64) w (some ad) l.length l) (hl : l.length ≤ 1000000) :
    Calls Try.prog 76 #[.slice (some ad) l.length c] w fun e w' => ∃ v, e = .returned v ∧ Kd.R (Kd.int .i64) 3 w' w.heap.size (fun _ => True) v l ∧ Below w.heap.size w w' := by
  have HR := Aside0.mk hr
  clear hr
  have hq := fun W => Lib.run_eql_slice_nil (P := Try.prog) W 29 3 (some ad) l.length c 0 0 Try.underlying29
  go_enter Try.func76, Try.ntmps76
  go_wp2_with (at_builtin; refine Kd.R_append_row (Value.int .i64) 0 (h1 := fun _ => rfl) (w0 := w) w.heap.size rfl _ _ 29 3 (.int .i64 0) 8 rfl Try.underlying29 info3 rfl (by decide) (.slice (some ⟨w.heap.size, 0, none⟩) 0 0) [] l (some ad) l.length c (fun _ => True) rfl rfl (fun _ _ => trivial) ?HO ?HR ?HB ?hbase ?hl ?_)
  case HO => exact R_block (xs := []) (heap_alloc_new w _) (Nat.le_refl _) (by unfold maxLen; simp)
  case HR => exact Kd.C_alloc HR.out _
  case HB => exact below_alloc (Below.refl _ _) _
  case hbase => simp
  case hl => simp; omega
  intro v1 w1 HO HB1 _ _
  have HO' := Aside0.mk HO
  have HB' := Aside0.mk HB1
  clear HO HB1
  go_wp2
  go_ret
  exact ⟨_, rfl, HO'.out, HB'.out⟩

theorem clone_nil (c : Nat) (w : World) :
    Calls Try.prog 76 #[.slice none 0 c] w fun e w' => e = .returned (.slice none 0 0) ∧ w = w' := by
  have hq := fun W => Lib.run_eql_slice_nil (P := Try.prog) W 29 3 none 0 c 0 0 Try.underlying29
  go_enter Try.func76, Try.ntmps76
  go_wp2
  go_ret
  exact ⟨rfl, rfl⟩
theorem clone_any (A : Option Addr) (c : Nat) (l : List Int) (w : World) (hr : Kd.C (Kd.int .i64) w A l.length l) (hl : l.length ≤ 1000000) :
    Calls Try.prog 76 #[.slice A l.length c] w fun e w' => ∃ v, e = .returned v ∧ Kd.R (Kd.int .i64) 3 w' w.heap.size (fun _ => True) v l ∧ Below w.heap.size w w' := by
  cases A with
  | some ad => exact clone_some ad c l w hr hl
  | none =>
    have h0 : l = [] := by
      cases l with
      | nil => rfl
      | cons x xs => obtain ⟨ad, e, _⟩ := hr.2.2 (by simp); cases e
    subst h0
    exact (clone_nil c w).mono fun e w' ⟨he, hw⟩ => ⟨_, he, Kd.R_nil _ _ _ _ _, hw ▸ Below.refl _ _⟩

def TopTo (l : List Int) (k : Nat) (m : Int) : Prop := (∃ j, j < k ∧ gx l j = m) ∧ ∀ j, j < k → gx l j ≤ m
def LowTo (l : List Int) (k : Nat) (m : Int) : Prop := (∃ j, j < k ∧ gx l j = m) ∧ ∀ j, j < k → m ≤ gx l j
theorem TopTo.one (l : List Int) : TopTo l 1 (gx l 0) := ⟨⟨0, by omega, rfl⟩, fun j hj => by
  obtain rfl : j = 0 := by omega
  exact Int.le_refl _⟩
theorem LowTo.one (l : List Int) : LowTo l 1 (gx l 0) := ⟨⟨0, by omega, rfl⟩, fun j hj => by
  obtain rfl : j = 0 := by omega
  exact Int.le_refl _⟩
theorem TopTo.next {l : List Int} {k : Nat} {m : Int} (h : TopTo l k m) : TopTo l (k + 1) (if m < gx l k then gx l k else m) := by
  obtain ⟨⟨j, hj, e⟩, hm⟩ := h
  split
  · refine ⟨⟨k, by omega, rfl⟩, fun i hi => ?_⟩
    rcases Nat.lt_or_ge i k with h1 | h1
    · have := hm i h1; omega
    · obtain rfl : i = k := by omega
      exact Int.le_refl _
  · refine ⟨⟨j, by omega, e⟩, fun i hi => ?_⟩
    rcases Nat.lt_or_ge i k with h1 | h1
    · exact hm i h1
    · obtain rfl : i = k := by omega
      omega
theorem LowTo.next {l : List Int} {k : Nat} {m : Int} (h : LowTo l k m) : LowTo l (k + 1) (if gx l k < m then gx l k else m) := by
  obtain ⟨⟨j, hj, e⟩, hm⟩ := h
  split
  · refine ⟨⟨k, by omega, rfl⟩, fun i hi => ?_⟩
    rcases Nat.lt_or_ge i k with h1 | h1
    · have := hm i h1; omega
    · obtain rfl : i = k := by omega
      exact Int.le_refl _
  · refine ⟨⟨j, by omega, e⟩, fun i hi => ?_⟩
    rcases Nat.lt_or_ge i k with h1 | h1
    · exact hm i h1
    · obtain rfl : i = k := by omega
      omega
theorem mem_gx {l : List Int} {x : Int} (h : x ∈ l) : ∃ j, j < l.length ∧ gx l j = x := by
  obtain ⟨j, hj, rfl⟩ := List.mem_iff_getElem.1 h
  exact ⟨j, hj, gx_lt l j hj⟩
theorem TopTo.last {l : List Int} {m : Int} (h : TopTo l l.length m) (h0 : 0 < l.length) : m = gx (sortI l) (l.length - 1) := by
  obtain ⟨⟨j, hj, e⟩, hm⟩ := h
  have hlen := sortI_length l
  obtain ⟨i, hi, ei⟩ := mem_gx ((sortI_perm l).mem_iff.1 (gx_mem (sortI l) (l.length - 1) (by omega)))
  obtain ⟨q, hq, eq⟩ := mem_gx ((sortI_perm l).mem_iff.2 (gx_mem l j hj))
  have h1 := hm i hi
  have h2 := asc_step (sortI_asc l) q (l.length - 1) (by omega) (by omega)
  omega
theorem LowTo.first {l : List Int} {m : Int} (h : LowTo l l.length m) (h0 : 0 < l.length) : m = gx (sortI l) 0 := by
  obtain ⟨⟨j, hj, e⟩, hm⟩ := h
  have hlen := sortI_length l
  obtain ⟨i, hi, ei⟩ := mem_gx ((sortI_perm l).mem_iff.1 (gx_mem (sortI l) 0 (by omega)))
  obtain ⟨q, hq, eq⟩ := mem_gx ((sortI_perm l).mem_iff.2 (gx_mem l j hj))
  have h1 := hm i hi
  have h2 := asc_step (sortI_asc l) 0 q (by omega) (by omega)
  omega
attribute [local go_sem] max2_int min2_int max_two min_two

theorem cell_rd {w : World} {A : Option Addr} {l : List Int} (h : Kd.C (Kd.int .i64) w A l.length l) (j : Nat) (hj : j < l.length) : ∃ ad, A = some ad ∧ w.cell? (ad.add j) = some (.int .i64 (gx l j)) := by
  obtain ⟨ad, e, hc⟩ := Kd.at_int h j (by omega) (by omega)
  exact ⟨ad, e, by simpa [gx, rd] using hc⟩

set_option maxHeartbeats 1000000 in
theorem max_any (A : Option Addr) (c : Nat) (l : List Int) (w : World) (hr : Kd.C (Kd.int .i64) w A l.length l) (h0 : 0 < l.length) :
    Calls Try.prog 78 #[.slice A l.length c] w fun e w' => (∃ m, e = .returned (.int .i64 m) ∧ TopTo l l.length m) ∧ w = w' := by
  have hmax := Kd.C_max hr
  have HR := Aside0.mk hr
  clear hr
  obtain ⟨ad, ead, hcell⟩ := cell_rd HR.out 0 h0
  cases ead
  rw [Addr.add_zero'] at hcell
  go_enter Try.func78, Try.ntmps78
  go_wp2
  go_loop [3, 4] (fun m i => ∃ (k : Nat) (x : Int), 1 ≤ k ∧ k ≤ l.length ∧ i = .int .i64 k ∧ m = .int .i64 x ∧ TopTo l k x) (fun _ i => l.length - (intOf i).toNat)
  case atStart => exact ⟨1, _, by omega, by omega, rfl, rfl, TopTo.one l⟩
  case round =>
    clear hcell
    obtain ⟨k, x, hk1, hk, rfl, rfl, hn⟩ := hrel
    by_cases hlt : k < l.length
    · obtain ⟨ad', ead, hcell⟩ := cell_rd HR.out k hlt
      cases ead
      go_wp2
      go_round
      case rel => exact ⟨k + 1, _, by omega, by omega, by go_num, rfl, hn.next⟩
      case measure => simp [intOf]; omega
    · go_wp2
      go_ret
      obtain rfl : k = l.length := by omega
      exact ⟨⟨_, rfl, hn⟩, rfl⟩
set_option maxHeartbeats 1000000 in
theorem min_any (A : Option Addr) (c : Nat) (l : List Int) (w : World) (hr : Kd.C (Kd.int .i64) w A l.length l) (h0 : 0 < l.length) :
    Calls Try.prog 79 #[.slice A l.length c] w fun e w' => (∃ m, e = .returned (.int .i64 m) ∧ LowTo l l.length m) ∧ w = w' := by
  have hmax := Kd.C_max hr
  have HR := Aside0.mk hr
  clear hr
  obtain ⟨ad, ead, hcell⟩ := cell_rd HR.out 0 h0
  cases ead
  rw [Addr.add_zero'] at hcell
  go_enter Try.func79, Try.ntmps79
  go_wp2
  go_loop [3, 4] (fun m i => ∃ (k : Nat) (x : Int), 1 ≤ k ∧ k ≤ l.length ∧ i = .int .i64 k ∧ m = .int .i64 x ∧ LowTo l k x) (fun _ i => l.length - (intOf i).toNat)
  case atStart => exact ⟨1, _, by omega, by omega, rfl, rfl, LowTo.one l⟩
  case round =>
    clear hcell
    obtain ⟨k, x, hk1, hk, rfl, rfl, hn⟩ := hrel
    by_cases hlt : k < l.length
    · obtain ⟨ad', ead, hcell⟩ := cell_rd HR.out k hlt
      cases ead
      go_wp2
      go_round
      case rel => exact ⟨k + 1, _, by omega, by omega, by go_num, rfl, hn.next⟩
      case measure => simp [intOf]; omega
    · go_wp2
      go_ret
      obtain rfl : k = l.length := by omega
      exact ⟨⟨_, rfl, hn⟩, rfl⟩

theorem max_is (A : Option Addr) (c : Nat) (l : List Int) (w : World) (hr : Kd.C (Kd.int .i64) w A l.length l) (h0 : 0 < l.length) :
    Calls Try.prog 78 #[.slice A l.length c] w fun e w' => e = .returned (.int .i64 (gx (sortI l) (l.length - 1))) ∧ w = w' :=
  (max_any A c l w hr h0).mono fun e w' ⟨⟨m, he, hm⟩, hw⟩ => ⟨by rw [he, hm.last h0], hw⟩
theorem min_is (A : Option Addr) (c : Nat) (l : List Int) (w : World) (hr : Kd.C (Kd.int .i64) w A l.length l) (h0 : 0 < l.length) :
    Calls Try.prog 79 #[.slice A l.length c] w fun e w' => e = .returned (.int .i64 (gx (sortI l) 0)) ∧ w = w' :=
  (min_any A c l w hr h0).mono fun e w' ⟨⟨m, he, hm⟩, hw⟩ => ⟨by rw [he, hm.first h0], hw⟩

def spreadI (l : List Int) : Int := gx (sortI l) (l.length - 1) - gx (sortI l) 0
theorem spread_ok (A : Option Addr) (c : Nat) (l : List Int) (w : World) (hr : Kd.C (Kd.int .i64) w A l.length l) (hok : okB l = true) (h0 : 0 < l.length) :
    Calls Try.prog 29 #[.slice A l.length c] w fun e w' => e = .returned (.int .i64 (spreadI l)) ∧ w = w' := by
  have b1 := gx_small hok (l.length - 1) (by omega)
  have b2 := gx_small hok 0 (by omega)
  have hne : ((l.length : Int) == 0) = false := by rw [beq_eq_false_iff_ne]; omega
  have hne2 : (l.length == 0) = false := by rw [beq_eq_false_iff_ne]; omega
  have HR := Aside0.mk hr
  have HOK := Aside0.mk hok
  clear hr hok
  go_enter Try.func29, Try.ntmps29
  go_wp2_with (first
    | (go_at_call 73; refine (right_any _ _ _ _ HR.out).mono ?_; rw [HOK.out]; rintro e w' ⟨rfl, rfl⟩)
    | (go_at_call 78; refine (max_is _ _ _ _ HR.out h0).mono ?_; rintro e w1 ⟨rfl, rfl⟩)
    | (go_at_call 79; refine (min_is _ _ _ _ HR.out h0).mono ?_; rintro e w1 ⟨rfl, rfl⟩))
  go_ret
  exact ⟨rfl, rfl⟩
theorem spread_no (A : Option Addr) (c : Nat) (l : List Int) (w : World) (hr : Kd.C (Kd.int .i64) w A l.length l) (hok : okB l = false) :
    Calls Try.prog 29 #[.slice A l.length c] w fun e w' => e = .returned (.int .i64 0) ∧ w = w' := by
  have HR := Aside0.mk hr
  have HOK := Aside0.mk hok
  clear hr hok
  go_enter Try.func29, Try.ntmps29
  go_wp2_with (go_at_call 73; refine (right_any _ _ _ _ HR.out).mono ?_; rw [HOK.out]; rintro e w' ⟨rfl, rfl⟩)
  go_ret
  exact ⟨rfl, rfl⟩
theorem spread_nil (A : Option Addr) (c : Nat) (w : World) (hr : Kd.C (Kd.int .i64) w A 0 []) :
    Calls Try.prog 29 #[.slice A 0 c] w fun e w' => e = .returned (.int .i64 0) ∧ w = w' := by
  have HR := Aside0.mk hr
  have HOK := Aside0.mk (show okB [] = true from rfl)
  clear hr
  go_enter Try.func29, Try.ntmps29
  go_wp2_with (go_at_call 73; refine (right_any _ _ [] _ HR.out).mono ?_; rw [HOK.out]; rintro e w' ⟨rfl, rfl⟩)
  go_ret
  exact ⟨rfl, rfl⟩
def order_Spread.f (l : List Int) : Option Int := some (if okB l = true ∧ 0 < l.length then spreadI l else 0)
theorem order_Spread.calls (A0 : Option Addr) (c0 : Nat) (l0 : List Int) (r : Int) (w : World) (hr0 : Kd.C (Kd.int .i64) w A0 l0.length l0) (_hc0 : l0.length ≤ c0) (h : order_Spread.f l0 = some r) :
    Calls Try.prog 29 #[.slice A0 l0.length c0] w fun e w' => e = .returned (.int .i64 r) ∧ Drawn0 w w' := by
  obtain rfl := Option.some.inj h
  by_cases hok : okB l0 = true
  · by_cases h0 : 0 < l0.length
    · rw [if_pos ⟨hok, h0⟩]
      exact (spread_ok A0 c0 l0 w hr0 hok h0).mono fun e w' ⟨he, hw⟩ => ⟨he, hw ▸ Drawn0.refl _⟩
    · rw [if_neg (fun h => h0 h.2)]
      obtain rfl : l0 = [] := List.eq_nil_of_length_eq_zero (by omega)
      exact (spread_nil A0 c0 w hr0).mono fun e w' ⟨he, hw⟩ => ⟨he, hw ▸ Drawn0.refl _⟩
  · rw [if_neg (fun h => hok h.1)]
    exact (spread_no A0 c0 l0 w hr0 (by simpa using hok)).mono fun e w' ⟨he, hw⟩ => ⟨he, hw ▸ Drawn0.refl _⟩
end Go.Proofs.Ytdhmefdnpiidbaa.Ord

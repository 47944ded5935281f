/- order.Sort: any list of at most 16 small numbers, sorted. -/
import Derived.Test.YtdhmefdnpiidbaaOrd0
import Derived.Test.YtdhmefdnpiidbaaOrdM
import Derived.WalkMore
import Derived.Outline
import Derived.Laws.CopyOwn
import Derived.RegionTactic
import Derived.BigRegion
namespace Go.Proofs.Ytdhmefdnpiidbaa.Ord
open Go.RowKit Go.Proofs.YtdhmefdnpiidbaaW.PrintWords Go.Proofs.YtdhmefdnpiidbaaW.PrintLast Go.Proofs.YtdhmefdnpiidbaaW.PrintMore
open Go.Proofs.Ytdhmefdnpiidbaa.Base (info3)

theorem cells_of {w : World} {A : Option Addr} {l : List Int} (h : Kd.C (Kd.int .i64) w A l.length l) (h0 : 0 < l.length) : ∃ ad, A = some ad ∧ ∀ j v, (nums .i64 l)[j]? = some v → w.cell? (ad.add j) = some v := by
  obtain ⟨_, _, hc⟩ := h
  obtain ⟨ad, e, hc⟩ := hc h0
  refine ⟨ad, e, fun j v hv => ?_⟩
  simp only [nums, List.getElem?_map, Option.map_eq_some_iff] at hv
  obtain ⟨x, hx, rfl⟩ := hv
  obtain ⟨c, hcl, hk, hcell⟩ := hc j x hx
  have h1 := hcell 0 (.int .i64 x) (by rw [show c = [Value.int .i64 x] from hk]; rfl)
  simpa [show (Kd.int .i64).sz = 1 from rfl] using h1
theorem cell_gx {w : World} {g : Nat} {ys : List Int} (h : w.heap[g]? = some (.cells (nums .i64 ys).toArray 3 (0, 0))) {j : Nat} (hj : j < ys.length) : w.cell? ⟨g, j, none⟩ = some (.int .i64 (gx ys j)) := by
  rw [blk_cell h, gx_lt ys j hj]
  simp [nums, hj]
set_option linter.unusedVariables false
theorem swap_block {w : World} {g : Nat} {ys : List Int} (h : w.heap[g]? = some (.cells (nums .i64 ys).toArray 3 (0, 0))) {j : Nat} (h1 : 1 ≤ j) (hj : j < ys.length) :
    ((w.setCell ⟨g, j - 1, none⟩ (.int .i64 (gx ys j))).setCell ⟨g, j, none⟩ (.int .i64 (gx ys (j - 1)))).heap[g]? = some (.cells (nums .i64 (swp ys j)).toArray 3 (0, 0)) := by
  rw [blk_set (blk_set h (j - 1) _) j _]
  simp [nums, swp, List.map_set]
theorem R_block {w : World} {g base : Nat} {xs : List Int} (h : w.heap[g]? = some (.cells (nums .i64 xs).toArray 3 (0, 0))) (hb : base ≤ g) (hl : xs.length ≤ maxLen) :
    Kd.R (Kd.int .i64) 3 w base (fun _ => True) (.slice (some ⟨g, 0, none⟩) xs.length xs.length) xs := by
  refine Kd.R_of_own ⟨by simp [encs], .inr ⟨g, xs.length, _, rfl, hb, h, Nat.le_refl _, hl, by simp [nums], ?_⟩⟩ (fun _ _ => trivial)
  rw [show encs (Value.int .i64) xs = nums .i64 xs from rfl, List.take_of_length_le (by simp [nums])]
set_option maxRecDepth 100000 in
set_option maxHeartbeats 1000000 in
theorem sort_ok (A : Option Addr) (c : Nat) (l : List Int) (w : World) (hr : Kd.C (Kd.int .i64) w A l.length l) (hok : okB l = true) :
    Calls Try.prog 21 #[.slice A l.length c] w fun e w' => ∃ v, e = .returned v ∧ Kd.R (Kd.int .i64) 3 w' w.heap.size (fun _ => True) v (sortI l) ∧ Below w.heap.size w w' := by
  have hlen : l.length ≤ 16 := by unfold okB at hok; simp at hok; exact hok.1
  have HR := Aside0.mk hr
  have HOK := Aside0.mk hok
  clear hr hok
  have hmk := print_make (P := Try.prog) 29 3 .i64 8 Try.underlying29 info3 (by decide) l.length (by omega)
  obtain ⟨M, hM⟩ : ∃ M, M = madeCells #[Value.int .i64 0] l.length := ⟨_, rfl⟩
  rw [← hM] at hmk
  have HM := Aside0.mk hM
  clear hM
  have hsz : (Try.prog.info? 3).map (·.size) = some 1 := by kernel_rfl
  have HSZ := Aside0.mk hsz
  clear hsz
  go_enter Try.func21, Try.ntmps21
  go_wp2
  go_step3
  go_wp2_with (first
    | (go_at_call 73; refine (right_any _ _ _ _ HR.out).mono ?_; rw [HOK.out]; rintro e w' ⟨rfl, rfl⟩)
    | (with_reducible refine wpList_copy_splice (o := ⟨some 14, _, _, _, _, _⟩) rfl _ _ 29 29 rfl 3 Try.underlying29 HSZ.out (some ⟨w.heap.size, 0, none⟩) A l.length l.length l.length c rfl rfl w.heap.size 0 M.toList 3 ?hg (nums .i64 l) ?hn ?hpos ?hfit ?h1 w.heap.size w ?hb (Nat.le_refl _) ?_))
  case hg => simpa using heap_alloc_new w _
  case hn => simp [nums]
  case hpos => exact fun hp => cells_of (Kd.C_alloc HR.out _) (by simpa [nums] using hp)
  case hfit => rw [HM.out]; simp [nums, size_madeCells]
  case h1 => intro v hv; simp [nums] at hv; obtain ⟨x, _, rfl⟩ := hv; rfl
  case hb => exact below_alloc (Below.refl _ _) _
  intro w1 HG HB1
  have hg1 : w1.heap[w.heap.size]? = some (.cells (nums .i64 l).toArray 3 (0, 0)) := by
    have h := HG.out
    rwa [show splice M.toList 0 (nums .i64 l) = nums .i64 l by rw [HM.out]; simp [splice, nums, size_madeCells]] at h
  have HG1 := Aside0.mk hg1
  have HBE := Aside0.mk HB1
  clear HG hg1 HB1 HM hmk M
  go_wp2
  go_step3
  go_wp2
  go_loopw [17] (fun i wr => ∃ k : Nat, ∃ xs : List Int, i = .int .i64 k ∧ k ≤ l.length ∧ Aside0 (xs.length = l.length) ∧ Aside0 (wr.heap[w.heap.size]? = some (.cells (nums .i64 xs).toArray 3 (0, 0))) ∧ Aside0 (Below w.heap.size w wr) ∧ OInv l xs k) (fun i _ => l.length - (intOf i).toNat)
  case atStart => exact ⟨0, l, rfl, Nat.zero_le _, ⟨rfl⟩, HG1, HBE, OInv.zero l⟩
  case round =>
    clear HG1 HBE
    obtain ⟨k, xs, rfl, hk, HL, HG1, HBE, HO⟩ := hrel
    by_cases hlt : k < l.length
    · obtain ⟨wo, rfl⟩ : ∃ wo : World, wo = wr := ⟨_, rfl⟩
      go_wp2
      go_loopw [4, 5] (fun m i wr => ∃ (j : Nat) (mv : Bool) (ys : List Int), m = .bool mv ∧ i = .int .i64 j ∧ 1 ≤ j ∧ j ≤ l.length ∧ Aside0 (ys.length = l.length) ∧ Aside0 (wr.heap[w.heap.size]? = some (.cells (nums .i64 ys).toArray 3 (0, 0))) ∧ Aside0 (Below w.heap.size w wr) ∧ BInv l ys k j mv) (fun _ i _ => l.length - (intOf i).toNat)
      case atStart => exact ⟨1, false, xs, rfl, rfl, Nat.le_refl _, by omega, HL, HG1, HBE, HO.begin⟩
      case round =>
        clear HG1 HBE HO HL
        obtain ⟨j, mv, ys, rfl, rfl, hj1, hj2, HL, HG1, HBE, HO⟩ := hrel
        by_cases hjl : j < l.length
        · have c1 : wr.cell? ⟨w.heap.size, j - 1, none⟩ = some (.int .i64 (gx ys (j - 1))) := cell_gx HG1.out (by have := HL.out; omega)
          have c2 : wr.cell? ⟨w.heap.size, j, none⟩ = some (.int .i64 (gx ys j)) := cell_gx HG1.out (by have := HL.out; omega)
          have f1 : wr.frozen? ⟨w.heap.size, j - 1, none⟩ = false := blk_frozen HG1.out _
          have f2 : wr.frozen? ⟨w.heap.size, j, none⟩ = false := blk_frozen HG1.out _
          have e1 : IntKind.i64.wrap ((j : Int) - 1) = (j : Int) - 1 := IntWalk.i64_in _ (by omega)
          have e2 : 0 ≤ (j : Int) - 1 := by omega
          have e3 : ((j : Int) - 1).toNat = j - 1 := by omega
          have e4 : (j : Int) - 1 < (l.length : Int) := by omega
          by_cases hgt : gx ys j < gx ys (j - 1)
          · have hgtb : decide (gx ys j < gx ys (j - 1)) = true := decide_eq_true hgt
            go_wp2
            go_quiet (fail)
            go_wp2
            go_region
            all_goals
              go_wp2
              go_roundw
              case rel => exact ⟨j + 1, true, swp ys j, rfl, by go_num, by omega, by omega, ⟨(swp_length ys j).trans HL.out⟩, ⟨swap_block (w := wr.drewN _) HG1.out hj1 (by have := HL.out; omega)⟩, ⟨((pw_below_drewN HBE.out _).setCell (Nat.le_refl _) _).setCell (Nat.le_refl _) _⟩, HO.swap hj1 (by have := HL.out; omega) hgt⟩
              case measure => simp [intOf]; omega
          · have hgtb : decide (gx ys j < gx ys (j - 1)) = false := decide_eq_false hgt
            go_wp2
            go_quiet (fail)
            go_wp2
            go_roundw
            case rel => exact ⟨j + 1, mv, ys, rfl, by go_num, by omega, by omega, HL, HG1, ⟨pw_below_drewN HBE.out _⟩, HO.keep hj1 (by have := HL.out; omega) (by omega)⟩
            case measure => simp [intOf]; omega
        · obtain rfl : j = l.length := by omega
          have HLe := HL.out
          rw [← HLe] at HO
          clear HLe
          cases mv with
          | true =>
            go_wp2
            go_roundw
            case rel => exact ⟨k + 1, ys, by go_num, by omega, HL, HG1, HBE, HO.done⟩
            case measure => simp [intOf]; omega
          | false =>
            have HS := Aside0.mk HO.still
            clear HO
            go_wp2
            rw [Exit.noGoto_ret]
            go_ret
            exact ⟨_, rfl, by rw [← HS.out, ← HL.out]; exact R_block HG1.out (Nat.le_refl _) (by have := HL.out; unfold maxLen; omega), HBE.out⟩
    · have HS := Aside0.mk (HO.few (by have := HL.out; omega))
      clear HO
      go_wp2
      rw [Exit.noGoto_ret]
      go_ret
      exact ⟨_, rfl, by rw [← HS.out, ← HL.out]; exact R_block HG1.out (Nat.le_refl _) (by have := HL.out; unfold maxLen; omega), HBE.out⟩

set_option maxRecDepth 100000 in
theorem sort_no (A : Option Addr) (c : Nat) (l : List Int) (w : World) (hr : Kd.C (Kd.int .i64) w A l.length l) (hok : okB l = false) :
    Calls Try.prog 21 #[.slice A l.length c] w fun e w' => e = .returned (.slice none 0 0) ∧ w = w' := by
  have HR := Aside0.mk hr
  have HOK := Aside0.mk hok
  clear hr hok
  go_enter Try.func21, Try.ntmps21
  go_wp2
  go_step3
  go_wp2_with (go_at_call 73; refine (right_any _ _ _ _ HR.out).mono ?_; rw [HOK.out]; rintro e w' ⟨rfl, rfl⟩)
  rw [Exit.noGoto_ret]
  go_ret
  exact ⟨rfl, rfl⟩

/-- order.Sort, as a function. -/
def order_Sort.f (l : List Int) : Option (List Int) := some (if okB l = true then sortI l else [])
theorem order_Sort.calls (A0 : Option Addr) (c0 : Nat) (l0 : List Int) (r : List Int) (w : World) (hr0 : Kd.C (Kd.int .i64) w A0 l0.length l0) (_hc0 : l0.length ≤ c0) (h : order_Sort.f l0 = some r) :
    Calls Try.prog 21 #[.slice A0 l0.length c0] w fun e w' => ∃ v0_ : Value, e = .returned (v0_) ∧ Kd.R (Kd.int .i64) 3 w' w.heap.size (fun _ => True) v0_ r ∧ Below w.heap.size w w' := by
  obtain rfl := Option.some.inj h
  by_cases hok : okB l0 = true
  · rw [if_pos hok]
    exact sort_ok A0 c0 l0 w hr0 hok
  · rw [if_neg hok]
    exact (sort_no A0 c0 l0 w hr0 (by simpa using hok)).mono fun e w' ⟨he, hw⟩ => ⟨_, he, Kd.R_nil _ _ _ _ _, hw ▸ Below.refl _ _⟩
end Go.Proofs.Ytdhmefdnpiidbaa.Ord

/- For each Go function named below: a Lean function with the same answers, and the proof that the call answers so wherever that function does; written by a program of this session (myprint.py) out of the translation. -/
import Derived.Test.YtdhmefdnpiidbaaPLatchUnharmedx0
import Derived.Test.YtdhmefdnpiidbaaPLatchUnharmedx1
namespace Go.Proofs.Ytdhmefdnpiidbaa.PLatchUnharmed
open Go.RowKit Go.Proofs.YtdhmefdnpiidbaaW.PrintWords Go.Proofs.YtdhmefdnpiidbaaW.PrintLast Go.Proofs.YtdhmefdnpiidbaaW.PrintMore Go.Proofs.Ytdhmefdnpiidbaa.Base Go.Proofs.Ytdhmefdnpiidbaa.Lat Go.Proofs.Ytdhmefdnpiidbaa.LatR Go.Proofs.Ytdhmefdnpiidbaa.LatA
attribute [local go_sem] max2_int min2_int max_two min_two max_three min_three max_four min_four   -- for this text's walks alone
set_option linter.unusedVariables false
set_option linter.unusedSimpArgs false

attribute [local go_sem high] eqA28
/-! ### rudderlaw15_LatchUnharmed: function 3 -/
mutual
def rudderlaw15_LatchUnharmed.j0 : Nat → List Bool → Int → Bool → Int → Int → Int → Option (Bool)
  | 0, _, _, _, _, _, _ => none
  | k + 1, x1, x2, x28, x102000, x102001, x102002 => if x28 = true then ((rudderlaw15_alive.f k).bind fun t103 => (some t103)) else (if 0 ≤ (wrap64 (x2)) then (if (wrap64 (x2) : Int).toNat ≤ 281474976710656 then ((latch_Run.f k x102000 x102001 x102002 (List.replicate (wrap64 (x2) : Int).toNat false)).bind fun bt107 => (if bt107.2.2.2.2.2.2 = 0 then (rudderlaw15_LatchUnharmed.j1 k x1 (bt107.1 || (bt107.2.1 || (!(bt107.2.2.1 == 0) || (!(bt107.2.2.2.1 == 0) || (!(bt107.2.2.2.2.1 == 0)))))) x102000 x102001 x102002) else (rudderlaw15_LatchUnharmed.j1 k x1 true x102000 x102001 x102002))) else (none)) else (none))
def rudderlaw15_LatchUnharmed.j1 : Nat → List Bool → Bool → Int → Int → Int → Option (Bool)
  | 0, _, _, _, _, _ => none
  | k + 1, x1, x45, x102000, x102001, x102002 => if x45 = true then (none) else (rudderlaw15_LatchUnharmed.l0 k x1 ([] : List Bool) 0 0 x102000 x102001 x102002)
def rudderlaw15_LatchUnharmed.l0 : Nat → List Bool → List Bool → Int → Int → Int → Int → Int → Option (Bool)
  | 0, _, _, _, _, _, _, _ => none
  | k + 1, x1, x10, x11, x12, x102000, x102001, x102002 => if x12 < (x1.length : Int) then (if 0 ≤ x12 then (if rdOf false x1 x12 = true then (if (wrap64 (x11 + 1)) < x102000 then (if x10.length < 140737488355328 then (rudderlaw15_LatchUnharmed.l0 k x1 (x10 ++ [decide ((wrap64 (x11 + 1)) < x102000)]) (wrap64 (x11 + 1)) (wrap64 (x12 + 1)) x102000 x102001 x102002) else (none)) else (if x10.length < 140737488355328 then (rudderlaw15_LatchUnharmed.l0 k x1 (x10 ++ [decide ((wrap64 (x11 + 1)) < x102000)]) 0 (wrap64 (x12 + 1)) x102000 x102001 x102002) else (none))) else (if x10.length < 140737488355328 then (rudderlaw15_LatchUnharmed.l0 k x1 (x10 ++ [false]) 0 (wrap64 (x12 + 1)) x102000 x102001 x102002) else (none))) else (none)) else ((latch_Run.f k x102000 x102001 x102002 x10).bind fun bt127 => (rudderlaw15_LatchUnharmed.l1 k x1 x11 bt127.2.2.2.2.2.1 bt127.2.2.2.2.2.2 0 x102000 x102001 x102002 bt127.1 bt127.2.1 bt127.2.2.1 bt127.2.2.2.1 bt127.2.2.2.2.1))
def rudderlaw15_LatchUnharmed.l1 : Nat → List Bool → Int → List Int → Int → Int → Int → Int → Int → Bool → Bool → Int → Int → Int → Option (Bool)
  | 0, _, _, _, _, _, _, _, _, _, _, _, _, _ => none
  | k + 1, x1, x11, x15, x16, x17, x102000, x102001, x102002, x137000, x137001, x137002, x137003, x137004 => if x17 < (x15.length : Int) then (if 0 ≤ x17 then (if (rd x15 x17) = 0 then (rudderlaw15_LatchUnharmed.l1 k x1 x11 x15 x16 (wrap64 (x17 + 1)) x102000 x102001 x102002 x137000 x137001 x137002 x137003 x137004) else (none)) else (none)) else ((some (([] : List Bool) : List Bool)).bind fun y138 => (if y138.length + x1.length < 140737488355328 then ((some (y138 ++ x1 : List Bool)).bind fun y141 => (if 0 ≤ x102001 then (if y141.length + (x102001 : Int).toNat < 140737488355328 then ((latch_Run.f k x102000 x102001 x102002 (y141 ++ List.replicate (x102001 : Int).toNat false)).bind fun bt147 => ((rudderlaw15_alive.f k).bind fun t157 => (if t157 = true then (if x16 = 0 then (if bt147.2.2.2.2.2.2 = 0 then (if x137000 = true then (none) else (if x137004 = 0 then (if x137002 = x11 then (if bt147.2.1 = true then (some true) else (if bt147.1 = true then (none) else (some (bt147.2.2.1 == 0)))) else (none)) else (none))) else (none)) else (none)) else (none)))) else (none)) else (none))) else (none)))
end
def rudderlaw15_LatchUnharmed.f (k : Nat) (a0_0 : Int) (a0_1 : Int) (a0_2 : Int) (l1 : List Bool) (a2 : Int) : Option (Bool) := (latch_Right.f a0_0 a0_1 a0_2).bind fun t102 => (if t102 = true then (rudderlaw15_LatchUnharmed.j0 k l1 a2 (decide ((l1.length : Int) > 300)) a0_0 a0_1 a0_2) else (rudderlaw15_LatchUnharmed.j0 k l1 a2 true a0_0 a0_1 a0_2))
theorem rudderlaw15_LatchUnharmed.mono_l : ∀ k, (∀ y0 y1 y2 y3 y4 y5, LeO (rudderlaw15_LatchUnharmed.j0 k y0 y1 y2 y3 y4 y5) (rudderlaw15_LatchUnharmed.j0 (k + 1) y0 y1 y2 y3 y4 y5)) ∧ (∀ y0 y1 y2 y3 y4, LeO (rudderlaw15_LatchUnharmed.j1 k y0 y1 y2 y3 y4) (rudderlaw15_LatchUnharmed.j1 (k + 1) y0 y1 y2 y3 y4)) ∧ (∀ y0 y1 y2 y3 y4 y5 y6, LeO (rudderlaw15_LatchUnharmed.l0 k y0 y1 y2 y3 y4 y5 y6) (rudderlaw15_LatchUnharmed.l0 (k + 1) y0 y1 y2 y3 y4 y5 y6)) ∧ (∀ y0 y1 y2 y3 y4 y5 y6 y7 y8 y9 y10 y11 y12, LeO (rudderlaw15_LatchUnharmed.l1 k y0 y1 y2 y3 y4 y5 y6 y7 y8 y9 y10 y11 y12) (rudderlaw15_LatchUnharmed.l1 (k + 1) y0 y1 y2 y3 y4 y5 y6 y7 y8 y9 y10 y11 y12))
  | 0 => ⟨fun _ _ _ _ _ _ r h => by simp [rudderlaw15_LatchUnharmed.j0] at h, fun _ _ _ _ _ r h => by simp [rudderlaw15_LatchUnharmed.j1] at h, fun _ _ _ _ _ _ _ r h => by simp [rudderlaw15_LatchUnharmed.l0] at h, fun _ _ _ _ _ _ _ _ _ _ _ _ _ r h => by simp [rudderlaw15_LatchUnharmed.l1] at h⟩
  | k + 1 => by
    obtain ⟨ih0, ih1, ih2, ih3⟩ := rudderlaw15_LatchUnharmed.mono_l k
    refine ⟨?_, ?_, ?_, ?_⟩
    · intro y0 y1 y2 y3 y4 y5
      unfold rudderlaw15_LatchUnharmed.j0
      repeat' first
      | (with_reducible exact ih0 _ _ _ _ _ _)
      | (with_reducible exact ih1 _ _ _ _ _)
      | (with_reducible exact ih2 _ _ _ _ _ _ _)
      | (with_reducible exact ih3 _ _ _ _ _ _ _ _ _ _ _ _ _)
      | (with_reducible exact latch_Run.mono _ _ _ _ _)
      | (with_reducible exact rudderlaw15_alive.mono _)
      | (with_reducible exact LeO.refl _)
      | (with_reducible exact LeO.none _)
      | (with_reducible refine LeO.ite ?_ ?_)
      | (with_reducible refine LeO.bind ?_ (fun _ => ?_))
      | exact ih0 _ _ _ _ _ _
      | exact ih1 _ _ _ _ _
      | exact ih2 _ _ _ _ _ _ _
      | exact ih3 _ _ _ _ _ _ _ _ _ _ _ _ _
      | exact latch_Run.mono _ _ _ _ _
      | exact rudderlaw15_alive.mono _
      | exact LeO.none _
      | refine LeO.ite ?_ ?_
      | refine LeO.bind ?_ (fun _ => ?_)
    · intro y0 y1 y2 y3 y4
      unfold rudderlaw15_LatchUnharmed.j1
      repeat' first
      | (with_reducible exact ih0 _ _ _ _ _ _)
      | (with_reducible exact ih1 _ _ _ _ _)
      | (with_reducible exact ih2 _ _ _ _ _ _ _)
      | (with_reducible exact ih3 _ _ _ _ _ _ _ _ _ _ _ _ _)
      | (with_reducible exact latch_Run.mono _ _ _ _ _)
      | (with_reducible exact rudderlaw15_alive.mono _)
      | (with_reducible exact LeO.refl _)
      | (with_reducible exact LeO.none _)
      | (with_reducible refine LeO.ite ?_ ?_)
      | (with_reducible refine LeO.bind ?_ (fun _ => ?_))
      | exact ih0 _ _ _ _ _ _
      | exact ih1 _ _ _ _ _
      | exact ih2 _ _ _ _ _ _ _
      | exact ih3 _ _ _ _ _ _ _ _ _ _ _ _ _
      | exact latch_Run.mono _ _ _ _ _
      | exact rudderlaw15_alive.mono _
      | exact LeO.none _
      | refine LeO.ite ?_ ?_
      | refine LeO.bind ?_ (fun _ => ?_)
    · intro y0 y1 y2 y3 y4 y5 y6
      unfold rudderlaw15_LatchUnharmed.l0
      repeat' first
      | (with_reducible exact ih0 _ _ _ _ _ _)
      | (with_reducible exact ih1 _ _ _ _ _)
      | (with_reducible exact ih2 _ _ _ _ _ _ _)
      | (with_reducible exact ih3 _ _ _ _ _ _ _ _ _ _ _ _ _)
      | (with_reducible exact latch_Run.mono _ _ _ _ _)
      | (with_reducible exact rudderlaw15_alive.mono _)
      | (with_reducible exact LeO.refl _)
      | (with_reducible exact LeO.none _)
      | (with_reducible refine LeO.ite ?_ ?_)
      | (with_reducible refine LeO.bind ?_ (fun _ => ?_))
      | exact ih0 _ _ _ _ _ _
      | exact ih1 _ _ _ _ _
      | exact ih2 _ _ _ _ _ _ _
      | exact ih3 _ _ _ _ _ _ _ _ _ _ _ _ _
      | exact latch_Run.mono _ _ _ _ _
      | exact rudderlaw15_alive.mono _
      | exact LeO.none _
      | refine LeO.ite ?_ ?_
      | refine LeO.bind ?_ (fun _ => ?_)
    · intro y0 y1 y2 y3 y4 y5 y6 y7 y8 y9 y10 y11 y12
      unfold rudderlaw15_LatchUnharmed.l1
      repeat' first
      | (with_reducible exact ih0 _ _ _ _ _ _)
      | (with_reducible exact ih1 _ _ _ _ _)
      | (with_reducible exact ih2 _ _ _ _ _ _ _)
      | (with_reducible exact ih3 _ _ _ _ _ _ _ _ _ _ _ _ _)
      | (with_reducible exact latch_Run.mono _ _ _ _ _)
      | (with_reducible exact rudderlaw15_alive.mono _)
      | (with_reducible exact LeO.refl _)
      | (with_reducible exact LeO.none _)
      | (with_reducible refine LeO.ite ?_ ?_)
      | (with_reducible refine LeO.bind ?_ (fun _ => ?_))
      | exact ih0 _ _ _ _ _ _
      | exact ih1 _ _ _ _ _
      | exact ih2 _ _ _ _ _ _ _
      | exact ih3 _ _ _ _ _ _ _ _ _ _ _ _ _
      | exact latch_Run.mono _ _ _ _ _
      | exact rudderlaw15_alive.mono _
      | exact LeO.none _
      | refine LeO.ite ?_ ?_
      | refine LeO.bind ?_ (fun _ => ?_)
theorem rudderlaw15_LatchUnharmed.mono : ∀ a0 a1 a2 a3 a4 k, LeO (rudderlaw15_LatchUnharmed.f k a0 a1 a2 a3 a4) (rudderlaw15_LatchUnharmed.f (k + 1) a0 a1 a2 a3 a4) := by
  intro a0 a1 a2 a3 a4 k
  obtain ⟨ih0, ih1, ih2, ih3⟩ := rudderlaw15_LatchUnharmed.mono_l k
  unfold rudderlaw15_LatchUnharmed.f
  repeat' first
      | (with_reducible exact ih0 _ _ _ _ _ _)
      | (with_reducible exact ih1 _ _ _ _ _)
      | (with_reducible exact ih2 _ _ _ _ _ _ _)
      | (with_reducible exact ih3 _ _ _ _ _ _ _ _ _ _ _ _ _)
      | (with_reducible exact latch_Run.mono _ _ _ _ _)
      | (with_reducible exact rudderlaw15_alive.mono _)
      | (with_reducible exact LeO.refl _)
      | (with_reducible exact LeO.none _)
      | (with_reducible refine LeO.ite ?_ ?_)
      | (with_reducible refine LeO.bind ?_ (fun _ => ?_))
      | exact ih0 _ _ _ _ _ _
      | exact ih1 _ _ _ _ _
      | exact ih2 _ _ _ _ _ _ _
      | exact ih3 _ _ _ _ _ _ _ _ _ _ _ _ _
      | exact latch_Run.mono _ _ _ _ _
      | exact rudderlaw15_alive.mono _
      | exact LeO.none _
      | refine LeO.ite ?_ ?_
      | refine LeO.bind ?_ (fun _ => ?_)
def rudderlaw15_LatchUnharmed.T3 : Bool × List (List Nat × List Nat) := (true, [([], []), ([], []), ([1], [1]), ([2, 2], [2]), ([0, 3], [0, 3]), ([4], [4]), ([5], [5]), ([5], [5]), ([5], [5]), ([], []), ([9, 6, 4, 0, 1, 2, 3, 4, 5, 6, 9], [6, 9]), ([7, 10, 0, 1, 2, 3, 4, 5, 6, 7, 9, 10], [7]), ([8, 11, 0, 1, 2, 3, 4, 5, 6, 7, 8, 9, 10, 11], [8])])
def rudderlaw15_LatchUnharmed.B3 : List Nat := [0, 0, 2, 6, 15, 31, 63, 63, 63, 0, 639, 1791, 4095]
theorem rudderlaw15_LatchUnharmed.tab3 : rtab .any (opsOf Try.f3 3) = rudderlaw15_LatchUnharmed.T3 := by kernel_rfl
theorem rudderlaw15_LatchUnharmed.bits3 : waitsOk rudderlaw15_LatchUnharmed.T3.2 rudderlaw15_LatchUnharmed.B3 = true := by kernel_rfl
def rudderlaw15_LatchUnharmed.T22 : Bool × List (List Nat × List Nat) := (true, [([], []), ([], []), ([], []), ([1, 2], [1, 2]), ([], []), ([4], [4]), ([3, 5, 3], [3, 5]), ([0, 6, 6], [0, 6]), ([7], [7]), ([8], [8]), ([8], [8]), ([8], [8]), ([], []), ([12, 9, 7, 0, 1, 2, 3, 4, 5, 6, 7, 8, 9, 12], [9, 12]), ([10, 13, 0, 1, 2, 3, 4, 5, 6, 7, 8, 9, 10, 12, 13], [10]), ([11, 14, 0, 1, 2, 3, 4, 5, 6, 7, 8, 9, 10, 11, 12, 13, 14], [11])])
def rudderlaw15_LatchUnharmed.B22 : List Nat := [0, 0, 0, 6, 0, 16, 62, 127, 255, 511, 511, 511, 0, 5119, 14335, 32767]
theorem rudderlaw15_LatchUnharmed.tab22 : rtab .any (opsOf Try.f3 22) = rudderlaw15_LatchUnharmed.T22 := by kernel_rfl
theorem rudderlaw15_LatchUnharmed.bits22 : waitsOk rudderlaw15_LatchUnharmed.T22.2 rudderlaw15_LatchUnharmed.B22 = true := by kernel_rfl
set_option maxHeartbeats 8000000 in
set_option maxRecDepth 100000 in
theorem rudderlaw15_LatchUnharmed.calls (k : Nat) (a0_0 : Int) (a0_1 : Int) (a0_2 : Int) (A1 : Option Addr) (c1 : Nat) (l1 : List Bool) (a2 : Int) (r : Bool) (w : World) (hr1 : Kd.C Kd.bool w A1 l1.length l1) (hc1 : l1.length ≤ c1) (h : rudderlaw15_LatchUnharmed.f k a0_0 a0_1 a0_2 l1 a2 = some r) :
    Calls Try.prog 3 #[.agg #[.int .i64 a0_0, .int .i64 a0_1, .int .i64 a0_2], .slice A1 l1.length c1, .int .u8 a2] w fun e w' => e = .returned (.bool r) ∧ Below w.heap.size w w' := by
 have hu23 := Try.underlying23
 have hu28 := Try.underlying28
 have HR1 := Aside0.mk hr1
 have HC1 := Aside0.mk hc1
 clear hr1 hc1
 have HB := Aside0.mk (Below.refl w.heap.size w)
 have H : ((latch_Right.f a0_0 a0_1 a0_2).bind fun t102 => (if t102 = true then (rudderlaw15_LatchUnharmed.j0 k l1 a2 (decide ((l1.length : Int) > 300)) a0_0 a0_1 a0_2) else (rudderlaw15_LatchUnharmed.j0 k l1 a2 true a0_0 a0_1 a0_2))) = some r := h
 clear h
 have HC4 := Aside0.mk H
 clear H
 go_enter Try.func3, Try.ntmps3
 go_upto_region 1 with (first | ((with_reducible refine gate_dst (N := 3) rfl ?_); (try (refine gate_guard (by rfl) ?_; dsimp only)); refine box_event ?hg (N := 3) ?hd (cs := #[.int .i64 a0_0, .int .i64 a0_1, .int .i64 a0_2]) (t := 23) ?hr ?_; (case hd => rfl); (case hg => rfl); (case hr => first | (go_simp; done) | (go_simp; rfl)); intro gb101 hg w5 hbox hb; have n0_ := Aside0.mk (below_step (by repeat (first | (with_reducible first | exact HB.out | apply below_alloc | apply pw_below_drewN | apply below_drew1) | exact HB.out)) hb); have n1_ := Aside0.mk (hbox); have n2_ := Aside0.mk ((by rw [hg]; exact (below_size (by repeat (first | (with_reducible first | exact HB.out | apply below_alloc | apply pw_below_drewN | apply below_drew1) | exact HB.out))) : w.heap.size ≤ gb101)); have n3_ := Aside0.mk ((by rw [hg]; exact (below_size (by repeat (first | (with_reducible first | exact HB.out | apply below_alloc | apply pw_below_drewN | apply below_drew1) | exact HB.out))) : w.heap.size ≤ gb101)); clear HB; have HB := n0_; have BK101 := n1_; have GW101 := n2_; have GE101 := n3_; clear n0_ n1_ n2_ n3_; clear hb hbox hg))
 (try simp only [Act.put, List.setIfInBounds_toArray, List.set_cons_zero, List.set_cons_succ])
 go_cut [28] (fun v28 wc => ∃ (kq : Nat) (x28_3 : Bool), v28 = .bool x28_3 ∧ Aside0 (rudderlaw15_LatchUnharmed.j0 kq l1 a2 x28_3 a0_0 a0_1 a0_2 = some r) ∧ Aside0 (kq ≤ k) ∧ Aside0 (wc.heap[gb101]? = some (.cells #[.int .i64 a0_0, .int .i64 a0_1, .int .i64 a0_2] 23 (0, 0))) ∧ Aside0 (Below w.heap.size w wc))
 case first => as_aux_lemma =>
  have H := HC4.out
  clear HC4
  replace H := Option.bind_eq_some_iff.mp H
  obtain ⟨t102, A60, H⟩ := H
  replace H : (if t102 = true then (rudderlaw15_LatchUnharmed.j0 k l1 a2 (decide ((l1.length : Int) > 300)) a0_0 a0_1 a0_2) else (rudderlaw15_LatchUnharmed.j0 k l1 a2 true a0_0 a0_1 a0_2)) = some r := H
  have A6 := Aside0.mk A60
  clear A60
  by_cases c7 : t102 = true
  ·subst c7
   have H1 : (rudderlaw15_LatchUnharmed.j0 k l1 a2 (decide ((l1.length : Int) > 300)) a0_0 a0_1 a0_2) = some r := by rw [if_pos rfl] at H; exact H
   clear H
   have H := H1
   clear H1
   as_aux_lemma =>
    have H' := Aside0.mk H
    clear H
    have hcz8_0 : w5.cell? ⟨gb101, 0, none⟩ = some (.int .i64 a0_0) := (blk_cell BK101.out 0).trans rfl
    have hcz8_1 : w5.cell? ⟨gb101, 1, none⟩ = some (.int .i64 a0_1) := (blk_cell BK101.out 1).trans rfl
    have hcz8_2 : w5.cell? ⟨gb101, 2, none⟩ = some (.int .i64 a0_2) := (blk_cell BK101.out 2).trans rfl
    have hfz8_0 := blk_frozen BK101.out 0
    have hfz8_1 := blk_frozen BK101.out 1
    have hfz8_2 := blk_frozen BK101.out 2
    go_wp2_with (first | ((with_reducible refine gate_callee (f := 15) rfl ?_); refine goesL_ (some 22) rfl rfl Try.func15 (by kernel_rfl) rfl #[.agg #[.int .i64 a0_0, .int .i64 a0_1, .int .i64 a0_2]] rfl (by (try simp only [List.map_toArray, List.map_cons, List.map_nil]); first | done | rfl | (simp only [List.length_drop, List.length_take]; rfl)) ?_; (with_reducible refine (latch_Right.calls a0_0 a0_1 a0_2 true _ A6.out).mono ?_); rintro e w9 ⟨rfl, hb⟩; refine ⟨_, rfl, ?_⟩; have n0_ := Aside0.mk (blk_below (g := gb101) (o := .cells #[.int .i64 a0_0, .int .i64 a0_1, .int .i64 a0_2] 23 (0, 0)) (by (with_reducible repeat (first | refine blk_drewN ?_ _ | refine blk_drew ?_ | refine blk_alloc ?_ _)); exact BK101.out) hb); have n1_ := Aside0.mk (below_step (by repeat (first | (with_reducible first | exact HB.out | apply below_alloc | apply pw_below_drewN | apply below_drew1 | refine below_set ?_ GE101.out) | exact HB.out)) hb); clear BK101; clear HB; have BK101 := n0_; have HB := n1_; clear n0_ n1_; (try clear hb); (try clear hb2); (try clear hk); (try clear hi)))
    go_meet
    case rel => exact ⟨_, (decide ((l1.length : Int) > 300)), (by first | rfl | (simp; done) | (simp [*]; done)), H', ⟨by first | omega | exact Nat.le_refl _⟩, ⟨by (with_reducible repeat (first | refine blk_drewN ?_ _ | refine blk_drew ?_ | refine blk_alloc ?_ _)); exact BK101.out⟩, ⟨by repeat (first | (with_reducible first | exact HB.out | apply below_alloc | apply pw_below_drewN | apply below_drew1 | refine below_set ?_ GE101.out) | exact HB.out)⟩⟩
  ·replace c7 := Bool.eq_false_iff.mpr c7
   subst c7
   have H1 : (rudderlaw15_LatchUnharmed.j0 k l1 a2 true a0_0 a0_1 a0_2) = some r := by rw [if_neg (show ¬ (false = true) by decide)] at H; exact H
   clear H
   have H := H1
   clear H1
   as_aux_lemma =>
    have H' := Aside0.mk H
    clear H
    have hcz10_0 : w5.cell? ⟨gb101, 0, none⟩ = some (.int .i64 a0_0) := (blk_cell BK101.out 0).trans rfl
    have hcz10_1 : w5.cell? ⟨gb101, 1, none⟩ = some (.int .i64 a0_1) := (blk_cell BK101.out 1).trans rfl
    have hcz10_2 : w5.cell? ⟨gb101, 2, none⟩ = some (.int .i64 a0_2) := (blk_cell BK101.out 2).trans rfl
    have hfz10_0 := blk_frozen BK101.out 0
    have hfz10_1 := blk_frozen BK101.out 1
    have hfz10_2 := blk_frozen BK101.out 2
    go_wp2_with (first | ((with_reducible refine gate_callee (f := 15) rfl ?_); refine goesL_ (some 22) rfl rfl Try.func15 (by kernel_rfl) rfl #[.agg #[.int .i64 a0_0, .int .i64 a0_1, .int .i64 a0_2]] rfl (by (try simp only [List.map_toArray, List.map_cons, List.map_nil]); first | done | rfl | (simp only [List.length_drop, List.length_take]; rfl)) ?_; (with_reducible refine (latch_Right.calls a0_0 a0_1 a0_2 false _ A6.out).mono ?_); rintro e w11 ⟨rfl, hb⟩; refine ⟨_, rfl, ?_⟩; have n0_ := Aside0.mk (blk_below (g := gb101) (o := .cells #[.int .i64 a0_0, .int .i64 a0_1, .int .i64 a0_2] 23 (0, 0)) (by (with_reducible repeat (first | refine blk_drewN ?_ _ | refine blk_drew ?_ | refine blk_alloc ?_ _)); exact BK101.out) hb); have n1_ := Aside0.mk (below_step (by repeat (first | (with_reducible first | exact HB.out | apply below_alloc | apply pw_below_drewN | apply below_drew1 | refine below_set ?_ GE101.out) | exact HB.out)) hb); clear BK101; clear HB; have BK101 := n0_; have HB := n1_; clear n0_ n1_; (try clear hb); (try clear hb2); (try clear hk); (try clear hi)))
    go_meet
    case rel => exact ⟨_, (true), (by first | rfl | (simp; done) | (simp [*]; done)), H', ⟨by first | omega | exact Nat.le_refl _⟩, ⟨by (with_reducible repeat (first | refine blk_drewN ?_ _ | refine blk_drew ?_ | refine blk_alloc ?_ _)); exact BK101.out⟩, ⟨by repeat (first | (with_reducible first | exact HB.out | apply below_alloc | apply pw_below_drewN | apply below_drew1 | refine below_set ?_ GE101.out) | exact HB.out)⟩⟩
 case rest => as_aux_lemma =>
  clear HC4
  try clear c1
  try clear p2
  try clear c3
  try clear c7
  try clear hcz10_0
  try clear hcz10_1
  try clear hcz10_2
  try clear hcz8_0
  try clear hcz8_1
  try clear hcz8_2
  try clear hfz10_0
  try clear hfz10_1
  try clear hfz10_2
  try clear hfz8_0
  try clear hfz8_1
  try clear hfz8_2
  obtain ⟨kq, x28_3, rfl, HA, HJ3, BK101, HB⟩ := hcut
  cases kq with
  | zero => exact absurd HA.out (by simp [rudderlaw15_LatchUnharmed.j0])
  | succ kj3 =>
   have H := HA.out
   clear HA
   simp only [rudderlaw15_LatchUnharmed.j0] at H
   by_cases c12 : x28_3 = true
   ·subst c12
    have H1 : ((rudderlaw15_alive.f kj3).bind fun t103 => (some t103)) = some r := by rw [if_pos rfl] at H; exact H
    clear H
    have H := H1
    clear H1
    replace H := Option.bind_eq_some_iff.mp H
    obtain ⟨t103, A130, H⟩ := H
    replace H : (some t103) = some r := H
    have A13 := Aside0.mk A130
    clear A130
    as_aux_lemma =>
     obtain rfl := Option.some.inj H
     go_wp2_with (first | ((with_reducible refine gate_callee (f := 16) rfl ?_); refine goesL_ (some 29) rfl rfl Try.func16 (by kernel_rfl) rfl #[] rfl (by (try simp only [List.map_toArray, List.map_cons, List.map_nil]); first | done | rfl | (simp only [List.length_drop, List.length_take]; rfl)) ?_; (with_reducible refine (rudderlaw15_alive.calls kj3  t103 _ A13.out).mono ?_); rintro e w14 ⟨rfl, hb⟩; refine ⟨_, rfl, ?_⟩; have n0_ := Aside0.mk (blk_below (g := gb101) (o := .cells #[.int .i64 a0_0, .int .i64 a0_1, .int .i64 a0_2] 23 (0, 0)) (by (with_reducible repeat (first | refine blk_drewN ?_ _ | refine blk_drew ?_ | refine blk_alloc ?_ _)); exact BK101.out) hb); have n1_ := Aside0.mk (below_step (by repeat (first | (with_reducible first | exact HB.out | apply below_alloc | apply pw_below_drewN | apply below_drew1 | refine below_set ?_ GE101.out) | exact HB.out)) hb); clear BK101; clear HB; have BK101 := n0_; have HB := n1_; clear n0_ n1_; (try clear hb); (try clear hb2); (try clear hk); (try clear hi)))
     go_ret
     exact ⟨by first | rfl | (simp [errW_none, errW_some] <;> rfl) | (simp [*, errW_none, errW_some] <;> rfl), by repeat (first | (with_reducible first | exact HB.out | apply below_alloc | apply pw_below_drewN | apply below_drew1 | refine below_set ?_ GE101.out) | exact HB.out)⟩
   ·replace c12 := Bool.eq_false_iff.mpr c12
    subst c12
    have H1 : (if 0 ≤ (wrap64 (a2)) then (if (wrap64 (a2) : Int).toNat ≤ 281474976710656 then ((latch_Run.f kj3 a0_0 a0_1 a0_2 (List.replicate (wrap64 (a2) : Int).toNat false)).bind fun bt107 => (if bt107.2.2.2.2.2.2 = 0 then (rudderlaw15_LatchUnharmed.j1 kj3 l1 (bt107.1 || (bt107.2.1 || (!(bt107.2.2.1 == 0) || (!(bt107.2.2.2.1 == 0) || (!(bt107.2.2.2.2.1 == 0)))))) a0_0 a0_1 a0_2) else (rudderlaw15_LatchUnharmed.j1 kj3 l1 true a0_0 a0_1 a0_2))) else (none)) else (none)) = some r := by rw [if_neg (show ¬ (false = true) by decide)] at H; exact H
    clear H
    have H := H1
    clear H1
    obtain ⟨ji15, hji15⟩ : ∃ j_ : Int, (wrap64 (a2)) = j_ := ⟨_, rfl⟩
    replace H : (if 0 ≤ (ji15) then (if (ji15 : Int).toNat ≤ 281474976710656 then ((latch_Run.f kj3 a0_0 a0_1 a0_2 (List.replicate (ji15 : Int).toNat false)).bind fun bt107 => (if bt107.2.2.2.2.2.2 = 0 then (rudderlaw15_LatchUnharmed.j1 kj3 l1 (bt107.1 || (bt107.2.1 || (!(bt107.2.2.1 == 0) || (!(bt107.2.2.2.1 == 0) || (!(bt107.2.2.2.2.1 == 0)))))) a0_0 a0_1 a0_2) else (rudderlaw15_LatchUnharmed.j1 kj3 l1 true a0_0 a0_1 a0_2))) else (none)) else (none)) = some r := by first | (rw [hji15] at H; exact H) | (simp only [hji15] at H ⊢; exact H)
    have hji15w : (IntKind.i64.wrap (a2)) = ji15 := (i64_w _).trans hji15
    by_cases c16 : 0 ≤ (ji15)
    ·rw [if_pos c16] at H
     have c16b0 := eq_true c16
     have c16b1 : decide (0 ≤ (ji15)) = true := decide_eq_true c16
     clear c16
     by_cases c17 : (ji15 : Int).toNat ≤ 281474976710656
     ·rw [if_pos c17] at H
      have c17b0 := eq_true c17
      have c17b1 : decide ((ji15 : Int).toNat ≤ 281474976710656) = true := decide_eq_true c17
      clear c17
      obtain ⟨y104, hy104⟩ : ∃ y_ : List Bool, y_ = (List.replicate (ji15 : Int).toNat false) := ⟨_, rfl⟩
      replace H : ((latch_Run.f kj3 a0_0 a0_1 a0_2 y104).bind fun bt107 => (if bt107.2.2.2.2.2.2 = 0 then (rudderlaw15_LatchUnharmed.j1 kj3 l1 (bt107.1 || (bt107.2.1 || (!(bt107.2.2.1 == 0) || (!(bt107.2.2.2.1 == 0) || (!(bt107.2.2.2.2.1 == 0)))))) a0_0 a0_1 a0_2) else (rudderlaw15_LatchUnharmed.j1 kj3 l1 true a0_0 a0_1 a0_2))) = some r := by first | (rw [hy104]; with_reducible exact H) | (have H2_ := (Option.bind_some _ _).symm.trans H; rw [hy104]; with_reducible exact H2_) | (have H2_ := (Option.bind_some _ _).symm.trans H; with_reducible exact H2_) | with_reducible exact H | (rw [hy104]; exact H) | exact H
      have Ny104 := Aside0.mk hy104
      clear hy104
      replace H := Option.bind_eq_some_iff.mp H
      obtain ⟨⟨t107, t108, t109, t110, t111, t112, t115⟩, A180, H⟩ := H
      replace H : (if t115 = 0 then (rudderlaw15_LatchUnharmed.j1 kj3 l1 (t107 || (t108 || (!(t109 == 0) || (!(t110 == 0) || (!(t111 == 0)))))) a0_0 a0_1 a0_2) else (rudderlaw15_LatchUnharmed.j1 kj3 l1 true a0_0 a0_1 a0_2)) = some r := H
      have A18 := Aside0.mk A180
      clear A180
      have HC19 := Aside0.mk H
      clear H
      try go_wp2
      have n0_ := Aside0.mk (blk_drew BK101.out)
      have n1_ := Aside0.mk (below_drew1 HB.out)
      clear BK101
      clear HB
      have BK101 := n0_
      have HB := n1_
      clear n0_ n1_
      refine start_ (n := 13) (S := fun w' => w'.cell? ⟨gb101, 0, none⟩ = some (.int .i64 a0_0) ∧ w'.cell? ⟨gb101, 1, none⟩ = some (.int .i64 a0_1) ∧ w'.cell? ⟨gb101, 2, none⟩ = some (.int .i64 a0_2)) (ds := []) #[false, false, false, false, false, false, false, false, false, false, false, false, false] (by kernel_rfl) rfl rfl ⟨(blk_cell BK101.out 0).trans rfl, (blk_cell BK101.out 1).trans rfl, (blk_cell BK101.out 2).trans rfl⟩ (fun hHeld => ?_); refine with_tabW rudderlaw15_LatchUnharmed.tab3 rudderlaw15_LatchUnharmed.bits3 (fun HT_ HW_ => ?_)
      generalize wc.drew = w20 at BK101 HB hHeld ⊢
      refine pure_ (i := 1) (N := some 32) (v := ?_) (a' := ?_) #[false, true, false, false, false, false, false, false, false, false, false, false, false] rfl rfl (any_of HT_.out (by kernel_rfl)) (fun _ _ _ h => h) (Or.inl ⟨by rfl, ?_⟩) ?_ ?_
      rotate_left
      ·intro w'
       go_simp
       with_reducible rfl
      rotate_left
      ·simp only [Act.put, List.setIfInBounds_toArray, List.set_cons_zero, List.set_cons_succ, i64_w, i32_w]
       rfl
      refine pure_ (i := 2) (N := some 33) (v := ?_) (a' := ?_) #[false, true, true, false, false, false, false, false, false, false, false, false, false] rfl rfl (any_of HT_.out (by kernel_rfl)) (fun _ _ _ h => h) (Or.inl ⟨by rfl, ?_⟩) ?_ ?_
      rotate_left
      ·intro w'
       go_simp
       with_reducible rfl
      rotate_left
      ·simp only [Act.put, List.setIfInBounds_toArray, List.set_cons_zero, List.set_cons_succ, i64_w, i32_w]
       rfl
      refine take_ (i := 0) (N := some 31) (v := ?_) (a' := ?_) #[true, true, true, false, false, false, false, false, false, false, false, false, false] rfl rfl (take_ofW HT_.out HW_.out (by kernel_rfl)) (fun _ _ _ h => h) (Or.inl ⟨by rfl, ?_⟩) hHeld ?_ ?_
      rotate_left
      ·rintro w' ⟨s0, s1, s2⟩
       go_simp
       with_reducible rfl
      rotate_left
      ·simp only [Act.put, List.setIfInBounds_toArray, List.set_cons_zero, List.set_cons_succ, i64_w, i32_w]
       rfl
      refine join_ (σ := Value × Value × Nat) 3 #[true, true, true, true, true, true, true, true, true, true, false, false, false] (fun s_ => [(34, s_.1), (35, .tuple #[.agg #[.bool t107, .bool t108, .int .i64 t109, .int .i64 t110, .int .i64 t111], s_.2.1, .int .i64 t115]), (7, .pointer (some ⟨s_.2.2, 0, none⟩)), (30, .tuple #[.agg #[.bool t107, .bool t108, .int .i64 t109, .int .i64 t110, .int .i64 t111], s_.2.1, .int .i64 t115]), (36, .agg #[.bool t107, .bool t108, .int .i64 t109, .int .i64 t110, .int .i64 t111]), (37, s_.2.1), (38, .int .i64 t115)]) (fun s_ w' => (w'.cell? ⟨gb101, 0, none⟩ = some (.int .i64 a0_0) ∧ w'.cell? ⟨gb101, 1, none⟩ = some (.int .i64 a0_1) ∧ w'.cell? ⟨gb101, 2, none⟩ = some (.int .i64 a0_2)) ∧ (Kd.R Kd.bool 4 w' w.heap.size (fun _ => True) s_.1 y104) ∧ (Kd.R (Kd.int .i64) 3 w' w.heap.size (fun _ => True) s_.2.1 t112) ∧ (w'.heap[gb101]? = some (.cells #[.int .i64 a0_0, .int .i64 a0_1, .int .i64 a0_2] 23 (0, 0))) ∧ (w'.heap[s_.2.2]? = some (.cells #[.bool false, .bool false, .int .i64 0, .int .i64 0, .int .i64 0] 28 (0, 0))) ∧ (w.heap.size ≤ s_.2.2) ∧ (w.heap.size ≤ s_.2.2) ∧ (gb101 ≠ s_.2.2) ∧ (s_.2.2 ≠ gb101) ∧ (Below w.heap.size w w')) ?_ ?_
      rotate_left
      ·intro hCont
       refine two_ (i := 3) (j := 9) (Ni := some 34) (Nj := some 7) #[true, true, true, true, false, false, false, false, false, false, false, false, false] #[true, true, true, false, false, false, false, false, false, true, false, false, false] rfl rfl rfl rfl (two_of HT_.out (by kernel_rfl)) (by decide) (by decide) (fun K hK => ?_) (fun K hK => ?_)
       ·skip
        refine Kd.R_make_step Kd.bool _ 4 (by rfl) (N := 34) rfl 24 _ _ rfl ji15 rfl rfl Try.underlying24 (.bool false) 1 info4 rfl (by decide) (by omega) false (ok := fun _ => True) (okp := fun _ => True) rfl (fun _ hk => hk) trivial (of_decide_eq_true (by first | (with_reducible assumption) | assumption)) (Nat.le_trans (Nat.mul_le_mul_right _ (of_decide_eq_true (by first | (with_reducible assumption) | assumption) : ji15.toNat ≤ 281474976710656)) (by omega)) (Below.refl _ _) (Nat.le_refl _) ?_
        intro v105 w21 ho22 hb hg_ hnew_
        clear hg_ hnew_
        (first | rw [← Ny104.out] at ho22 | (simp only [Int.reduceToNat] at ho22; rw [← Ny104.out] at ho22))
        have n0_ := Aside0.mk (Kd.R_lower ho22 (below_size (by repeat (first | (with_reducible first | exact HB.out | apply below_alloc | apply pw_below_drewN | apply below_drew1 | refine below_set ?_ GE101.out) | exact HB.out))))
        have n1_ := Aside0.mk (blk_below (g := gb101) (o := .cells #[.int .i64 a0_0, .int .i64 a0_1, .int .i64 a0_2] 23 (0, 0)) (by (with_reducible repeat (first | refine blk_drewN ?_ _ | refine blk_drew ?_ | refine blk_alloc ?_ _)); exact BK101.out) hb)
        have n2_ := Aside0.mk (below_step (by repeat (first | (with_reducible first | exact HB.out | apply below_alloc | apply pw_below_drewN | apply below_drew1 | refine below_set ?_ GE101.out) | exact HB.out)) hb)
        clear BK101
        clear HB
        have HO106 := n0_
        have BK101 := n1_
        have HB := n2_
        clear n0_ n1_ n2_
        clear hb ho22
        obtain ⟨Ao23, co23, eo23⟩ := Kd.R_slice HO106.out
        (first | subst eo23 | (injection eo23 with f1_ f2_ f3_; have f4_ := f1_.symm; have f5_ := f3_.symm; clear f1_ f2_ f3_; subst f4_; subst f5_))
        refine hK.out _ _ ⟨(blk_cell BK101.out 0).trans rfl, (blk_cell BK101.out 1).trans rfl, (blk_cell BK101.out 2).trans rfl⟩ (fun hHeld => ?_)
        clear hK K
        refine norm_ (a' := ?_) ?_ ?_
        rotate_left
        ·show Act.put _ (some 34) _ = _
         simp only [Act.put, List.setIfInBounds_toArray, List.set_cons_zero, List.set_cons_succ, i64_w, i32_w]
         rfl
        refine two_ (i := 4) (j := 9) (Ni := some 35) (Nj := some 7) #[true, true, true, true, true, false, false, false, false, false, false, false, false] #[true, true, true, true, false, false, false, false, false, true, false, false, false] rfl rfl rfl rfl (two_of HT_.out (by kernel_rfl)) (by decide) (by decide) (fun K hK => ?_) (fun K hK => ?_)
        ·skip
         refine goes_ Try.func17 (by kernel_rfl) rfl #[.agg #[.int .i64 a0_0, .int .i64 a0_1, .int .i64 a0_2], .slice Ao23 y104.length co23] (by rfl) rfl rfl (by (try simp only [List.map_toArray, List.map_cons, List.map_nil]); first | done | rfl | (simp only [List.length_drop, List.length_take]; rfl)) ?_
         with_reducible refine (latch_Run.calls kj3 a0_0 a0_1 a0_2 _ _ y104 t107 t108 t109 t110 t111 t112 t115 _ ?side1 ?side2 A18.out).mono ?_
         (case side1 => repeat (first | exact (Kd.R_reads' HO106.out).2.2 | (with_reducible refine Kd.C_alloc ?_ _) | (with_reducible refine Kd.C_drewN ?_ _) | (with_reducible refine Kd.C_drew ?_)))
         (case side2 => exact (Kd.R_reads' HO106.out).2.1)
         rintro e w24 ⟨v113, rfl, ho0, hb⟩
         refine ⟨_, rfl, ?_⟩
         have n0_ := Aside0.mk (Kd.R_below (by (with_reducible repeat (first | apply Kd.R_alloc | apply Kd.R_drewN | apply Kd.R_drew)); exact HO106.out) hb)
         have n1_ := Aside0.mk (Kd.R_lower ho0 (below_size (by repeat (first | (with_reducible first | exact HB.out | apply below_alloc | apply pw_below_drewN | apply below_drew1 | refine below_set ?_ GE101.out) | exact HB.out))))
         have n2_ := Aside0.mk (blk_below (g := gb101) (o := .cells #[.int .i64 a0_0, .int .i64 a0_1, .int .i64 a0_2] 23 (0, 0)) (by (with_reducible repeat (first | refine blk_drewN ?_ _ | refine blk_drew ?_ | refine blk_alloc ?_ _)); exact BK101.out) hb)
         have n3_ := Aside0.mk (below_step (by repeat (first | (with_reducible first | exact HB.out | apply below_alloc | apply pw_below_drewN | apply below_drew1 | refine below_set ?_ GE101.out) | exact HB.out)) hb)
         clear HO106
         clear BK101
         clear HB
         have HO106 := n0_
         have HO114 := n1_
         have BK101 := n2_
         have HB := n3_
         clear n0_ n1_ n2_ n3_
         (try clear hb)
         (try clear hb2)
         (try clear hk)
         (try clear hi)
         (try clear ho0)
         refine hK.out _ _ ⟨(blk_cell BK101.out 0).trans rfl, (blk_cell BK101.out 1).trans rfl, (blk_cell BK101.out 2).trans rfl⟩ (fun hHeld => ?_)
         clear hK K
         refine norm_ (a' := ?_) ?_ ?_
         rotate_left
         ·show Act.put _ (some 35) _ = _
          simp only [Act.put, List.setIfInBounds_toArray, List.set_cons_zero, List.set_cons_succ, i64_w, i32_w]
          rfl
         refine pure_ (i := 5) (N := some 30) (v := ?_) (a' := ?_) #[true, true, true, true, true, true, false, false, false, false, false, false, false] rfl rfl (any_of HT_.out (by kernel_rfl)) (fun _ _ _ h => h) (Or.inl ⟨by rfl, ?_⟩) ?_ ?_
         rotate_left
         ·intro w'
          go_simp
          with_reducible rfl
         rotate_left
         ·simp only [Act.put, List.setIfInBounds_toArray, List.set_cons_zero, List.set_cons_succ, i64_w, i32_w]
          rfl
         refine pure_ (i := 6) (N := some 36) (v := ?_) (a' := ?_) #[true, true, true, true, true, true, true, false, false, false, false, false, false] rfl rfl (any_of HT_.out (by kernel_rfl)) (fun _ _ _ h => h) (Or.inl ⟨by rfl, ?_⟩) ?_ ?_
         rotate_left
         ·intro w'
          go_simp
          with_reducible rfl
         rotate_left
         ·simp only [Act.put, List.setIfInBounds_toArray, List.set_cons_zero, List.set_cons_succ, i64_w, i32_w]
          rfl
         refine pure_ (i := 7) (N := some 37) (v := ?_) (a' := ?_) #[true, true, true, true, true, true, true, true, false, false, false, false, false] rfl rfl (any_of HT_.out (by kernel_rfl)) (fun _ _ _ h => h) (Or.inl ⟨by rfl, ?_⟩) ?_ ?_
         rotate_left
         ·intro w'
          go_simp
          with_reducible rfl
         rotate_left
         ·simp only [Act.put, List.setIfInBounds_toArray, List.set_cons_zero, List.set_cons_succ, i64_w, i32_w]
          rfl
         refine pure_ (i := 8) (N := some 38) (v := ?_) (a' := ?_) #[true, true, true, true, true, true, true, true, true, false, false, false, false] rfl rfl (any_of HT_.out (by kernel_rfl)) (fun _ _ _ h => h) (Or.inl ⟨by rfl, ?_⟩) ?_ ?_
         rotate_left
         ·intro w'
          go_simp
          with_reducible rfl
         rotate_left
         ·simp only [Act.put, List.setIfInBounds_toArray, List.set_cons_zero, List.set_cons_succ, i64_w, i32_w]
          rfl
         refine one_ (i := 9) (N := some 7) #[true, true, true, true, true, true, true, true, true, true, false, false, false] rfl rfl (one_of HT_.out (by kernel_rfl)) (by decide) (fun K hK => ?_)
         refine box_step ?hg (N := 7) ?hd (cs := #[.bool false, .bool false, .int .i64 0, .int .i64 0, .int .i64 0]) (t := 28) ?hr ?_; (case hd => rfl); (case hg => rfl); (case hr => first | (go_simp; done) | (go_simp; rfl))
         intro gb116 hg w25 hbox hb
         have n0_ := Aside0.mk (Kd.R_below (by (with_reducible repeat (first | apply Kd.R_alloc | apply Kd.R_drewN | apply Kd.R_drew)); exact HO106.out) hb)
         have n1_ := Aside0.mk (Kd.R_below (by (with_reducible repeat (first | apply Kd.R_alloc | apply Kd.R_drewN | apply Kd.R_drew)); exact HO114.out) hb)
         have n2_ := Aside0.mk (blk_below (g := gb101) (o := .cells #[.int .i64 a0_0, .int .i64 a0_1, .int .i64 a0_2] 23 (0, 0)) (by (with_reducible repeat (first | refine blk_drewN ?_ _ | refine blk_drew ?_ | refine blk_alloc ?_ _)); exact BK101.out) hb)
         have n3_ := Aside0.mk (below_step (by repeat (first | (with_reducible first | exact HB.out | apply below_alloc | apply pw_below_drewN | apply below_drew1 | refine below_set ?_ GE101.out) | exact HB.out)) hb)
         have n4_ := Aside0.mk (hbox)
         have n5_ := Aside0.mk ((by rw [hg]; exact (below_size (by repeat (first | (with_reducible first | exact HB.out | apply below_alloc | apply pw_below_drewN | apply below_drew1 | refine below_set ?_ GE101.out) | exact HB.out))) : w.heap.size ≤ gb116))
         have n6_ := Aside0.mk ((by rw [hg]; exact (below_size (by repeat (first | (with_reducible first | exact HB.out | apply below_alloc | apply pw_below_drewN | apply below_drew1 | refine below_set ?_ GE101.out) | exact HB.out))) : w.heap.size ≤ gb116))
         have n7_ := Aside0.mk ((by rw [hg]; exact Nat.ne_of_lt (blk_lt (g := gb101) (o := .cells #[.int .i64 a0_0, .int .i64 a0_1, .int .i64 a0_2] 23 (0, 0)) (by (with_reducible repeat (first | refine blk_drewN ?_ _ | refine blk_drew ?_ | refine blk_alloc ?_ _)); exact BK101.out)) : gb101 ≠ gb116))
         have n8_ := Aside0.mk ((by rw [hg]; exact Nat.ne_of_gt (blk_lt (g := gb101) (o := .cells #[.int .i64 a0_0, .int .i64 a0_1, .int .i64 a0_2] 23 (0, 0)) (by (with_reducible repeat (first | refine blk_drewN ?_ _ | refine blk_drew ?_ | refine blk_alloc ?_ _)); exact BK101.out)) : gb116 ≠ gb101))
         clear HO106
         clear HO114
         clear BK101
         clear HB
         have HO106 := n0_
         have HO114 := n1_
         have BK101 := n2_
         have HB := n3_
         have BK116 := n4_
         have GW116 := n5_
         have GE116 := n6_
         have NB101_116 := n7_
         have NB116_101 := n8_
         clear n0_ n1_ n2_ n3_ n4_ n5_ n6_ n7_ n8_
         clear hb hbox hg
         refine hK.out _ _ ⟨(blk_cell BK101.out 0).trans rfl, (blk_cell BK101.out 1).trans rfl, (blk_cell BK101.out 2).trans rfl⟩ (fun hHeld => ?_)
         clear hK K
         refine norm_ (a' := ?_) ?_ ?_
         rotate_left
         ·show Act.put _ (some 7) _ = _
          simp only [Act.put, List.setIfInBounds_toArray, List.set_cons_zero, List.set_cons_succ, i64_w, i32_w]
          rfl
         exact norm_ (by simp only [putAll, Act.put, List.setIfInBounds_toArray, List.set_cons_zero, List.set_cons_succ]) (hCont (.slice Ao23 y104.length co23, v113, gb116) _ ⟨hHeld, (by (with_reducible repeat (first | apply Kd.R_alloc | apply Kd.R_drewN | apply Kd.R_drew)); exact HO106.out), (by (with_reducible repeat (first | apply Kd.R_alloc | apply Kd.R_drewN | apply Kd.R_drew)); exact HO114.out), (by (with_reducible repeat (first | refine blk_drewN ?_ _ | refine blk_drew ?_ | refine blk_alloc ?_ _)); exact BK101.out), (by (with_reducible repeat (first | refine blk_drewN ?_ _ | refine blk_drew ?_ | refine blk_alloc ?_ _)); exact BK116.out), GW116.out, GE116.out, NB101_116.out, NB116_101.out, (by repeat (first | (with_reducible first | exact HB.out | apply below_alloc | apply pw_below_drewN | apply below_drew1 | refine below_set ?_ GE101.out | refine below_set ?_ GE116.out) | exact HB.out))⟩)
        ·skip
         refine box_step ?hg (N := 7) ?hd (cs := #[.bool false, .bool false, .int .i64 0, .int .i64 0, .int .i64 0]) (t := 28) ?hr ?_; (case hd => rfl); (case hg => rfl); (case hr => first | (go_simp; done) | (go_simp; rfl))
         intro gb116 hg w23 hbox hb
         have n0_ := Aside0.mk (Kd.R_below (by (with_reducible repeat (first | apply Kd.R_alloc | apply Kd.R_drewN | apply Kd.R_drew)); exact HO106.out) hb)
         have n1_ := Aside0.mk (blk_below (g := gb101) (o := .cells #[.int .i64 a0_0, .int .i64 a0_1, .int .i64 a0_2] 23 (0, 0)) (by (with_reducible repeat (first | refine blk_drewN ?_ _ | refine blk_drew ?_ | refine blk_alloc ?_ _)); exact BK101.out) hb)
         have n2_ := Aside0.mk (below_step (by repeat (first | (with_reducible first | exact HB.out | apply below_alloc | apply pw_below_drewN | apply below_drew1 | refine below_set ?_ GE101.out) | exact HB.out)) hb)
         have n3_ := Aside0.mk (hbox)
         have n4_ := Aside0.mk ((by rw [hg]; exact (below_size (by repeat (first | (with_reducible first | exact HB.out | apply below_alloc | apply pw_below_drewN | apply below_drew1 | refine below_set ?_ GE101.out) | exact HB.out))) : w.heap.size ≤ gb116))
         have n5_ := Aside0.mk ((by rw [hg]; exact (below_size (by repeat (first | (with_reducible first | exact HB.out | apply below_alloc | apply pw_below_drewN | apply below_drew1 | refine below_set ?_ GE101.out) | exact HB.out))) : w.heap.size ≤ gb116))
         have n6_ := Aside0.mk ((by rw [hg]; exact Nat.ne_of_lt (blk_lt (g := gb101) (o := .cells #[.int .i64 a0_0, .int .i64 a0_1, .int .i64 a0_2] 23 (0, 0)) (by (with_reducible repeat (first | refine blk_drewN ?_ _ | refine blk_drew ?_ | refine blk_alloc ?_ _)); exact BK101.out)) : gb101 ≠ gb116))
         have n7_ := Aside0.mk ((by rw [hg]; exact Nat.ne_of_gt (blk_lt (g := gb101) (o := .cells #[.int .i64 a0_0, .int .i64 a0_1, .int .i64 a0_2] 23 (0, 0)) (by (with_reducible repeat (first | refine blk_drewN ?_ _ | refine blk_drew ?_ | refine blk_alloc ?_ _)); exact BK101.out)) : gb116 ≠ gb101))
         clear HO106
         clear BK101
         clear HB
         have HO106 := n0_
         have BK101 := n1_
         have HB := n2_
         have BK116 := n3_
         have GW116 := n4_
         have GE116 := n5_
         have NB101_116 := n6_
         have NB116_101 := n7_
         clear n0_ n1_ n2_ n3_ n4_ n5_ n6_ n7_
         clear hb hbox hg
         obtain ⟨Ao24, co24, eo24⟩ := Kd.R_slice HO106.out
         (first | subst eo24 | (injection eo24 with f1_ f2_ f3_; have f4_ := f1_.symm; have f5_ := f3_.symm; clear f1_ f2_ f3_; subst f4_; subst f5_))
         refine hK.out _ _ ⟨(blk_cell BK101.out 0).trans rfl, (blk_cell BK101.out 1).trans rfl, (blk_cell BK101.out 2).trans rfl⟩ (fun hHeld => ?_)
         clear hK K
         refine norm_ (a' := ?_) ?_ ?_
         rotate_left
         ·show Act.put _ (some 7) _ = _
          simp only [Act.put, List.setIfInBounds_toArray, List.set_cons_zero, List.set_cons_succ, i64_w, i32_w]
          rfl
         refine one_ (i := 4) (N := some 35) #[true, true, true, true, true, false, false, false, false, true, false, false, false] rfl rfl (one_of HT_.out (by kernel_rfl)) (by decide) (fun K hK => ?_)
         refine goes_ Try.func17 (by kernel_rfl) rfl #[.agg #[.int .i64 a0_0, .int .i64 a0_1, .int .i64 a0_2], .slice Ao24 y104.length co24] (by rfl) rfl rfl (by (try simp only [List.map_toArray, List.map_cons, List.map_nil]); first | done | rfl | (simp only [List.length_drop, List.length_take]; rfl)) ?_
         with_reducible refine (latch_Run.calls kj3 a0_0 a0_1 a0_2 _ _ y104 t107 t108 t109 t110 t111 t112 t115 _ ?side1 ?side2 A18.out).mono ?_
         (case side1 => repeat (first | exact (Kd.R_reads' HO106.out).2.2 | (with_reducible refine Kd.C_alloc ?_ _) | (with_reducible refine Kd.C_drewN ?_ _) | (with_reducible refine Kd.C_drew ?_)))
         (case side2 => exact (Kd.R_reads' HO106.out).2.1)
         rintro e w25 ⟨v113, rfl, ho0, hb⟩
         refine ⟨_, rfl, ?_⟩
         have n0_ := Aside0.mk (Kd.R_below (by (with_reducible repeat (first | apply Kd.R_alloc | apply Kd.R_drewN | apply Kd.R_drew)); exact HO106.out) hb)
         have n1_ := Aside0.mk (Kd.R_lower ho0 (below_size (by repeat (first | (with_reducible first | exact HB.out | apply below_alloc | apply pw_below_drewN | apply below_drew1 | refine below_set ?_ GE101.out | refine below_set ?_ GE116.out) | exact HB.out))))
         have n2_ := Aside0.mk (blk_below (g := gb101) (o := .cells #[.int .i64 a0_0, .int .i64 a0_1, .int .i64 a0_2] 23 (0, 0)) (by (with_reducible repeat (first | refine blk_drewN ?_ _ | refine blk_drew ?_ | refine blk_alloc ?_ _)); exact BK101.out) hb)
         have n3_ := Aside0.mk (blk_below (g := gb116) (o := .cells #[.bool false, .bool false, .int .i64 0, .int .i64 0, .int .i64 0] 28 (0, 0)) (by (with_reducible repeat (first | refine blk_drewN ?_ _ | refine blk_drew ?_ | refine blk_alloc ?_ _)); exact BK116.out) hb)
         have n4_ := Aside0.mk (below_step (by repeat (first | (with_reducible first | exact HB.out | apply below_alloc | apply pw_below_drewN | apply below_drew1 | refine below_set ?_ GE101.out | refine below_set ?_ GE116.out) | exact HB.out)) hb)
         clear HO106
         clear BK101
         clear BK116
         clear HB
         have HO106 := n0_
         have HO114 := n1_
         have BK101 := n2_
         have BK116 := n3_
         have HB := n4_
         clear n0_ n1_ n2_ n3_ n4_
         (try clear hb)
         (try clear hb2)
         (try clear hk)
         (try clear hi)
         (try clear ho0)
         refine hK.out _ _ ⟨(blk_cell BK101.out 0).trans rfl, (blk_cell BK101.out 1).trans rfl, (blk_cell BK101.out 2).trans rfl⟩ (fun hHeld => ?_)
         clear hK K
         refine norm_ (a' := ?_) ?_ ?_
         rotate_left
         ·show Act.put _ (some 35) _ = _
          simp only [Act.put, List.setIfInBounds_toArray, List.set_cons_zero, List.set_cons_succ, i64_w, i32_w]
          rfl
         refine pure_ (i := 5) (N := some 30) (v := ?_) (a' := ?_) #[true, true, true, true, true, true, false, false, false, true, false, false, false] rfl rfl (any_of HT_.out (by kernel_rfl)) (fun _ _ _ h => h) (Or.inl ⟨by rfl, ?_⟩) ?_ ?_
         rotate_left
         ·intro w'
          go_simp
          with_reducible rfl
         rotate_left
         ·simp only [Act.put, List.setIfInBounds_toArray, List.set_cons_zero, List.set_cons_succ, i64_w, i32_w]
          rfl
         refine pure_ (i := 6) (N := some 36) (v := ?_) (a' := ?_) #[true, true, true, true, true, true, true, false, false, true, false, false, false] rfl rfl (any_of HT_.out (by kernel_rfl)) (fun _ _ _ h => h) (Or.inl ⟨by rfl, ?_⟩) ?_ ?_
         rotate_left
         ·intro w'
          go_simp
          with_reducible rfl
         rotate_left
         ·simp only [Act.put, List.setIfInBounds_toArray, List.set_cons_zero, List.set_cons_succ, i64_w, i32_w]
          rfl
         refine pure_ (i := 7) (N := some 37) (v := ?_) (a' := ?_) #[true, true, true, true, true, true, true, true, false, true, false, false, false] rfl rfl (any_of HT_.out (by kernel_rfl)) (fun _ _ _ h => h) (Or.inl ⟨by rfl, ?_⟩) ?_ ?_
         rotate_left
         ·intro w'
          go_simp
          with_reducible rfl
         rotate_left
         ·simp only [Act.put, List.setIfInBounds_toArray, List.set_cons_zero, List.set_cons_succ, i64_w, i32_w]
          rfl
         refine pure_ (i := 8) (N := some 38) (v := ?_) (a' := ?_) #[true, true, true, true, true, true, true, true, true, true, false, false, false] rfl rfl (any_of HT_.out (by kernel_rfl)) (fun _ _ _ h => h) (Or.inl ⟨by rfl, ?_⟩) ?_ ?_
         rotate_left
         ·intro w'
          go_simp
          with_reducible rfl
         rotate_left
         ·simp only [Act.put, List.setIfInBounds_toArray, List.set_cons_zero, List.set_cons_succ, i64_w, i32_w]
          rfl
         exact norm_ (by simp only [putAll, Act.put, List.setIfInBounds_toArray, List.set_cons_zero, List.set_cons_succ]) (hCont (.slice Ao24 y104.length co24, v113, gb116) _ ⟨hHeld, (by (with_reducible repeat (first | apply Kd.R_alloc | apply Kd.R_drewN | apply Kd.R_drew)); exact HO106.out), (by (with_reducible repeat (first | apply Kd.R_alloc | apply Kd.R_drewN | apply Kd.R_drew)); exact HO114.out), (by (with_reducible repeat (first | refine blk_drewN ?_ _ | refine blk_drew ?_ | refine blk_alloc ?_ _)); exact BK101.out), (by (with_reducible repeat (first | refine blk_drewN ?_ _ | refine blk_drew ?_ | refine blk_alloc ?_ _)); exact BK116.out), GW116.out, GE116.out, NB101_116.out, NB116_101.out, (by repeat (first | (with_reducible first | exact HB.out | apply below_alloc | apply pw_below_drewN | apply below_drew1 | refine below_set ?_ GE101.out | refine below_set ?_ GE116.out) | exact HB.out))⟩)
       ·skip
        refine box_step ?hg (N := 7) ?hd (cs := #[.bool false, .bool false, .int .i64 0, .int .i64 0, .int .i64 0]) (t := 28) ?hr ?_; (case hd => rfl); (case hg => rfl); (case hr => first | (go_simp; done) | (go_simp; rfl))
        intro gb116 hg w21 hbox hb
        have n0_ := Aside0.mk (blk_below (g := gb101) (o := .cells #[.int .i64 a0_0, .int .i64 a0_1, .int .i64 a0_2] 23 (0, 0)) (by (with_reducible repeat (first | refine blk_drewN ?_ _ | refine blk_drew ?_ | refine blk_alloc ?_ _)); exact BK101.out) hb)
        have n1_ := Aside0.mk (below_step (by repeat (first | (with_reducible first | exact HB.out | apply below_alloc | apply pw_below_drewN | apply below_drew1 | refine below_set ?_ GE101.out) | exact HB.out)) hb)
        have n2_ := Aside0.mk (hbox)
        have n3_ := Aside0.mk ((by rw [hg]; exact (below_size (by repeat (first | (with_reducible first | exact HB.out | apply below_alloc | apply pw_below_drewN | apply below_drew1 | refine below_set ?_ GE101.out) | exact HB.out))) : w.heap.size ≤ gb116))
        have n4_ := Aside0.mk ((by rw [hg]; exact (below_size (by repeat (first | (with_reducible first | exact HB.out | apply below_alloc | apply pw_below_drewN | apply below_drew1 | refine below_set ?_ GE101.out) | exact HB.out))) : w.heap.size ≤ gb116))
        have n5_ := Aside0.mk ((by rw [hg]; exact Nat.ne_of_lt (blk_lt (g := gb101) (o := .cells #[.int .i64 a0_0, .int .i64 a0_1, .int .i64 a0_2] 23 (0, 0)) (by (with_reducible repeat (first | refine blk_drewN ?_ _ | refine blk_drew ?_ | refine blk_alloc ?_ _)); exact BK101.out)) : gb101 ≠ gb116))
        have n6_ := Aside0.mk ((by rw [hg]; exact Nat.ne_of_gt (blk_lt (g := gb101) (o := .cells #[.int .i64 a0_0, .int .i64 a0_1, .int .i64 a0_2] 23 (0, 0)) (by (with_reducible repeat (first | refine blk_drewN ?_ _ | refine blk_drew ?_ | refine blk_alloc ?_ _)); exact BK101.out)) : gb116 ≠ gb101))
        clear BK101
        clear HB
        have BK101 := n0_
        have HB := n1_
        have BK116 := n2_
        have GW116 := n3_
        have GE116 := n4_
        have NB101_116 := n5_
        have NB116_101 := n6_
        clear n0_ n1_ n2_ n3_ n4_ n5_ n6_
        clear hb hbox hg
        refine hK.out _ _ ⟨(blk_cell BK101.out 0).trans rfl, (blk_cell BK101.out 1).trans rfl, (blk_cell BK101.out 2).trans rfl⟩ (fun hHeld => ?_)
        clear hK K
        refine norm_ (a' := ?_) ?_ ?_
        rotate_left
        ·show Act.put _ (some 7) _ = _
         simp only [Act.put, List.setIfInBounds_toArray, List.set_cons_zero, List.set_cons_succ, i64_w, i32_w]
         rfl
        refine one_ (i := 3) (N := some 34) #[true, true, true, true, false, false, false, false, false, true, false, false, false] rfl rfl (one_of HT_.out (by kernel_rfl)) (by decide) (fun K hK => ?_)
        refine Kd.R_make_step Kd.bool _ 4 (by rfl) (N := 34) rfl 24 _ _ rfl ji15 rfl rfl Try.underlying24 (.bool false) 1 info4 rfl (by decide) (by omega) false (ok := fun _ => True) (okp := fun _ => True) rfl (fun _ hk => hk) trivial (of_decide_eq_true (by first | (with_reducible assumption) | assumption)) (Nat.le_trans (Nat.mul_le_mul_right _ (of_decide_eq_true (by first | (with_reducible assumption) | assumption) : ji15.toNat ≤ 281474976710656)) (by omega)) (Below.refl _ _) (Nat.le_refl _) ?_
        intro v105 w22 ho23 hb hg_ hnew_
        clear hg_ hnew_
        (first | rw [← Ny104.out] at ho23 | (simp only [Int.reduceToNat] at ho23; rw [← Ny104.out] at ho23))
        have n0_ := Aside0.mk (Kd.R_lower ho23 (below_size (by repeat (first | (with_reducible first | exact HB.out | apply below_alloc | apply pw_below_drewN | apply below_drew1 | refine below_set ?_ GE101.out | refine below_set ?_ GE116.out) | exact HB.out))))
        have n1_ := Aside0.mk (blk_below (g := gb101) (o := .cells #[.int .i64 a0_0, .int .i64 a0_1, .int .i64 a0_2] 23 (0, 0)) (by (with_reducible repeat (first | refine blk_drewN ?_ _ | refine blk_drew ?_ | refine blk_alloc ?_ _)); exact BK101.out) hb)
        have n2_ := Aside0.mk (blk_below (g := gb116) (o := .cells #[.bool false, .bool false, .int .i64 0, .int .i64 0, .int .i64 0] 28 (0, 0)) (by (with_reducible repeat (first | refine blk_drewN ?_ _ | refine blk_drew ?_ | refine blk_alloc ?_ _)); exact BK116.out) hb)
        have n3_ := Aside0.mk (below_step (by repeat (first | (with_reducible first | exact HB.out | apply below_alloc | apply pw_below_drewN | apply below_drew1 | refine below_set ?_ GE101.out | refine below_set ?_ GE116.out) | exact HB.out)) hb)
        clear BK101
        clear BK116
        clear HB
        have HO106 := n0_
        have BK101 := n1_
        have BK116 := n2_
        have HB := n3_
        clear n0_ n1_ n2_ n3_
        clear hb ho23
        obtain ⟨Ao24, co24, eo24⟩ := Kd.R_slice HO106.out
        (first | subst eo24 | (injection eo24 with f1_ f2_ f3_; have f4_ := f1_.symm; have f5_ := f3_.symm; clear f1_ f2_ f3_; subst f4_; subst f5_))
        refine hK.out _ _ ⟨(blk_cell BK101.out 0).trans rfl, (blk_cell BK101.out 1).trans rfl, (blk_cell BK101.out 2).trans rfl⟩ (fun hHeld => ?_)
        clear hK K
        refine norm_ (a' := ?_) ?_ ?_
        rotate_left
        ·show Act.put _ (some 34) _ = _
         simp only [Act.put, List.setIfInBounds_toArray, List.set_cons_zero, List.set_cons_succ, i64_w, i32_w]
         rfl
        refine one_ (i := 4) (N := some 35) #[true, true, true, true, true, false, false, false, false, true, false, false, false] rfl rfl (one_of HT_.out (by kernel_rfl)) (by decide) (fun K hK => ?_)
        refine goes_ Try.func17 (by kernel_rfl) rfl #[.agg #[.int .i64 a0_0, .int .i64 a0_1, .int .i64 a0_2], .slice Ao24 y104.length co24] (by rfl) rfl rfl (by (try simp only [List.map_toArray, List.map_cons, List.map_nil]); first | done | rfl | (simp only [List.length_drop, List.length_take]; rfl)) ?_
        with_reducible refine (latch_Run.calls kj3 a0_0 a0_1 a0_2 _ _ y104 t107 t108 t109 t110 t111 t112 t115 _ ?side1 ?side2 A18.out).mono ?_
        (case side1 => repeat (first | exact (Kd.R_reads' HO106.out).2.2 | (with_reducible refine Kd.C_alloc ?_ _) | (with_reducible refine Kd.C_drewN ?_ _) | (with_reducible refine Kd.C_drew ?_)))
        (case side2 => exact (Kd.R_reads' HO106.out).2.1)
        rintro e w25 ⟨v113, rfl, ho0, hb⟩
        refine ⟨_, rfl, ?_⟩
        have n0_ := Aside0.mk (Kd.R_below (by (with_reducible repeat (first | apply Kd.R_alloc | apply Kd.R_drewN | apply Kd.R_drew)); exact HO106.out) hb)
        have n1_ := Aside0.mk (Kd.R_lower ho0 (below_size (by repeat (first | (with_reducible first | exact HB.out | apply below_alloc | apply pw_below_drewN | apply below_drew1 | refine below_set ?_ GE101.out | refine below_set ?_ GE116.out) | exact HB.out))))
        have n2_ := Aside0.mk (blk_below (g := gb101) (o := .cells #[.int .i64 a0_0, .int .i64 a0_1, .int .i64 a0_2] 23 (0, 0)) (by (with_reducible repeat (first | refine blk_drewN ?_ _ | refine blk_drew ?_ | refine blk_alloc ?_ _)); exact BK101.out) hb)
        have n3_ := Aside0.mk (blk_below (g := gb116) (o := .cells #[.bool false, .bool false, .int .i64 0, .int .i64 0, .int .i64 0] 28 (0, 0)) (by (with_reducible repeat (first | refine blk_drewN ?_ _ | refine blk_drew ?_ | refine blk_alloc ?_ _)); exact BK116.out) hb)
        have n4_ := Aside0.mk (below_step (by repeat (first | (with_reducible first | exact HB.out | apply below_alloc | apply pw_below_drewN | apply below_drew1 | refine below_set ?_ GE101.out | refine below_set ?_ GE116.out) | exact HB.out)) hb)
        clear HO106
        clear BK101
        clear BK116
        clear HB
        have HO106 := n0_
        have HO114 := n1_
        have BK101 := n2_
        have BK116 := n3_
        have HB := n4_
        clear n0_ n1_ n2_ n3_ n4_
        (try clear hb)
        (try clear hb2)
        (try clear hk)
        (try clear hi)
        (try clear ho0)
        refine hK.out _ _ ⟨(blk_cell BK101.out 0).trans rfl, (blk_cell BK101.out 1).trans rfl, (blk_cell BK101.out 2).trans rfl⟩ (fun hHeld => ?_)
        clear hK K
        refine norm_ (a' := ?_) ?_ ?_
        rotate_left
        ·show Act.put _ (some 35) _ = _
         simp only [Act.put, List.setIfInBounds_toArray, List.set_cons_zero, List.set_cons_succ, i64_w, i32_w]
         rfl
        refine pure_ (i := 5) (N := some 30) (v := ?_) (a' := ?_) #[true, true, true, true, true, true, false, false, false, true, false, false, false] rfl rfl (any_of HT_.out (by kernel_rfl)) (fun _ _ _ h => h) (Or.inl ⟨by rfl, ?_⟩) ?_ ?_
        rotate_left
        ·intro w'
         go_simp
         with_reducible rfl
        rotate_left
        ·simp only [Act.put, List.setIfInBounds_toArray, List.set_cons_zero, List.set_cons_succ, i64_w, i32_w]
         rfl
        refine pure_ (i := 6) (N := some 36) (v := ?_) (a' := ?_) #[true, true, true, true, true, true, true, false, false, true, false, false, false] rfl rfl (any_of HT_.out (by kernel_rfl)) (fun _ _ _ h => h) (Or.inl ⟨by rfl, ?_⟩) ?_ ?_
        rotate_left
        ·intro w'
         go_simp
         with_reducible rfl
        rotate_left
        ·simp only [Act.put, List.setIfInBounds_toArray, List.set_cons_zero, List.set_cons_succ, i64_w, i32_w]
         rfl
        refine pure_ (i := 7) (N := some 37) (v := ?_) (a' := ?_) #[true, true, true, true, true, true, true, true, false, true, false, false, false] rfl rfl (any_of HT_.out (by kernel_rfl)) (fun _ _ _ h => h) (Or.inl ⟨by rfl, ?_⟩) ?_ ?_
        rotate_left
        ·intro w'
         go_simp
         with_reducible rfl
        rotate_left
        ·simp only [Act.put, List.setIfInBounds_toArray, List.set_cons_zero, List.set_cons_succ, i64_w, i32_w]
         rfl
        refine pure_ (i := 8) (N := some 38) (v := ?_) (a' := ?_) #[true, true, true, true, true, true, true, true, true, true, false, false, false] rfl rfl (any_of HT_.out (by kernel_rfl)) (fun _ _ _ h => h) (Or.inl ⟨by rfl, ?_⟩) ?_ ?_
        rotate_left
        ·intro w'
         go_simp
         with_reducible rfl
        rotate_left
        ·simp only [Act.put, List.setIfInBounds_toArray, List.set_cons_zero, List.set_cons_succ, i64_w, i32_w]
         rfl
        exact norm_ (by simp only [putAll, Act.put, List.setIfInBounds_toArray, List.set_cons_zero, List.set_cons_succ]) (hCont (.slice Ao24 y104.length co24, v113, gb116) _ ⟨hHeld, (by (with_reducible repeat (first | apply Kd.R_alloc | apply Kd.R_drewN | apply Kd.R_drew)); exact HO106.out), (by (with_reducible repeat (first | apply Kd.R_alloc | apply Kd.R_drewN | apply Kd.R_drew)); exact HO114.out), (by (with_reducible repeat (first | refine blk_drewN ?_ _ | refine blk_drew ?_ | refine blk_alloc ?_ _)); exact BK101.out), (by (with_reducible repeat (first | refine blk_drewN ?_ _ | refine blk_drew ?_ | refine blk_alloc ?_ _)); exact BK116.out), GW116.out, GE116.out, NB101_116.out, NB116_101.out, (by repeat (first | (with_reducible first | exact HB.out | apply below_alloc | apply pw_below_drewN | apply below_drew1 | refine below_set ?_ GE101.out | refine below_set ?_ GE116.out) | exact HB.out))⟩)
      rintro ⟨v105, v113, gb116⟩ w26 ⟨hS_, h0_, h1_, h2_, h3_, h4_, h5_, h6_, h7_, h8_⟩
      have n0_ : Aside0 (Kd.R Kd.bool 4 w26 w.heap.size (fun _ => True) v105 y104) := ⟨h0_⟩
      have n1_ : Aside0 (Kd.R (Kd.int .i64) 3 w26 w.heap.size (fun _ => True) v113 t112) := ⟨h1_⟩
      have n2_ : Aside0 (w26.heap[gb101]? = some (.cells #[.int .i64 a0_0, .int .i64 a0_1, .int .i64 a0_2] 23 (0, 0))) := ⟨h2_⟩
      have n3_ : Aside0 (w26.heap[gb116]? = some (.cells #[.bool false, .bool false, .int .i64 0, .int .i64 0, .int .i64 0] 28 (0, 0))) := ⟨h3_⟩
      have n4_ : Aside0 (w.heap.size ≤ gb116) := ⟨h4_⟩
      have n5_ : Aside0 (w.heap.size ≤ gb116) := ⟨h5_⟩
      have n6_ : Aside0 (gb101 ≠ gb116) := ⟨h6_⟩
      have n7_ : Aside0 (gb116 ≠ gb101) := ⟨h7_⟩
      have n8_ : Aside0 (Below w.heap.size w w26) := ⟨h8_⟩
      clear BK101
      clear HB
      clear h0_ h1_ h2_ h3_ h4_ h5_ h6_ h7_ h8_
      have HO106 := n0_
      have HO114 := n1_
      have BK101 := n2_
      have BK116 := n3_
      have GW116 := n4_
      have GE116 := n5_
      have NB101_116 := n6_
      have NB116_101 := n7_
      have HB := n8_
      clear n0_ n1_ n2_ n3_ n4_ n5_ n6_ n7_ n8_
      have hHeld : w26.cell? ⟨gb101, 0, none⟩ = some (.int .i64 a0_0) ∧ w26.cell? ⟨gb101, 1, none⟩ = some (.int .i64 a0_1) ∧ w26.cell? ⟨gb101, 2, none⟩ = some (.int .i64 a0_2) := hS_
      refine norm_ (a' := ?_) ?_ ?_
      rotate_left
      ·simp only [putAll, Act.put, List.setIfInBounds_toArray, List.set_cons_zero, List.set_cons_succ]
       rfl
      refine one_ (i := 10) (N := none) #[true, true, true, true, true, true, true, true, true, true, true, false, false] rfl rfl (one_of HT_.out (by kernel_rfl)) (by decide) (fun K hK => ?_)
      have hs27 : w26.cell? ⟨gb116, 0, none⟩ = some (.bool false) := (blk_cell BK116.out 0).trans rfl
      have hfs27 := blk_frozen BK116.out 0
      have hns27_0 := NB101_116.out
      have hms27_0 := NB116_101.out
      have hs28 : w26.cell? ⟨gb116, 1, none⟩ = some (.bool false) := (blk_cell BK116.out 1).trans rfl
      have hfs28 := blk_frozen BK116.out 1
      have hns28_0 := NB101_116.out
      have hms28_0 := NB116_101.out
      have hs29 : w26.cell? ⟨gb116, 2, none⟩ = some (.int .i64 0) := (blk_cell BK116.out 2).trans rfl
      have hfs29 := blk_frozen BK116.out 2
      have hns29_0 := NB101_116.out
      have hms29_0 := NB116_101.out
      have hs30 : w26.cell? ⟨gb116, 3, none⟩ = some (.int .i64 0) := (blk_cell BK116.out 3).trans rfl
      have hfs30 := blk_frozen BK116.out 3
      have hns30_0 := NB101_116.out
      have hms30_0 := NB116_101.out
      have hs31 : w26.cell? ⟨gb116, 4, none⟩ = some (.int .i64 0) := (blk_cell BK116.out 4).trans rfl
      have hfs31 := blk_frozen BK116.out 4
      have hns31_0 := NB101_116.out
      have hms31_0 := NB116_101.out
      refine skip_ (w1 := ?_) (by rfl) rfl ?_ ?_
      rotate_left
      ·go_simp
       rfl
      refine hK.out _ _ ⟨((cell_far (p := ⟨gb116, _, none⟩) NB101_116.out _).trans (((cell_far (p := ⟨gb116, _, none⟩) NB101_116.out _).trans (((cell_far (p := ⟨gb116, _, none⟩) NB101_116.out _).trans (((cell_far (p := ⟨gb116, _, none⟩) NB101_116.out _).trans (((cell_far (p := ⟨gb116, _, none⟩) NB101_116.out _).trans (hHeld.1)))))))))), ((cell_far (p := ⟨gb116, _, none⟩) NB101_116.out _).trans (((cell_far (p := ⟨gb116, _, none⟩) NB101_116.out _).trans (((cell_far (p := ⟨gb116, _, none⟩) NB101_116.out _).trans (((cell_far (p := ⟨gb116, _, none⟩) NB101_116.out _).trans (((cell_far (p := ⟨gb116, _, none⟩) NB101_116.out _).trans (hHeld.2.1)))))))))), ((cell_far (p := ⟨gb116, _, none⟩) NB101_116.out _).trans (((cell_far (p := ⟨gb116, _, none⟩) NB101_116.out _).trans (((cell_far (p := ⟨gb116, _, none⟩) NB101_116.out _).trans (((cell_far (p := ⟨gb116, _, none⟩) NB101_116.out _).trans (((cell_far (p := ⟨gb116, _, none⟩) NB101_116.out _).trans (hHeld.2.2))))))))))⟩ (fun hHeld => ?_)
      clear hK K
      refine pure_ (i := 11) (N := some 8) (v := ?_) (a' := ?_) #[true, true, true, true, true, true, true, true, true, true, true, true, false] rfl rfl (any_of HT_.out (by kernel_rfl)) (fun _ _ _ h => h) (Or.inl ⟨by rfl, ?_⟩) ?_ ?_
      rotate_left
      ·intro w'
       go_simp
       with_reducible rfl
      rotate_left
      ·simp only [Act.put, List.setIfInBounds_toArray, List.set_cons_zero, List.set_cons_succ, i64_w, i32_w]
       rfl
      refine pure_ (i := 12) (N := some 9) (v := ?_) (a' := ?_) #[true, true, true, true, true, true, true, true, true, true, true, true, true] rfl rfl (any_of HT_.out (by kernel_rfl)) (fun _ _ _ h => h) (Or.inl ⟨by rfl, ?_⟩) ?_ ?_
      rotate_left
      ·intro w'
       go_simp
       with_reducible rfl
      rotate_left
      ·simp only [Act.put, List.setIfInBounds_toArray, List.set_cons_zero, List.set_cons_succ, i64_w, i32_w]
       rfl
      refine done_ (done_of HT_.out (by kernel_rfl)) ?_
      go_upto_region 4 with (fail)
      go_cut [45] (fun v45 wc => ∃ (kq : Nat) (x45_18 : Bool), v45 = .bool x45_18 ∧ Aside0 (rudderlaw15_LatchUnharmed.j1 kq l1 x45_18 a0_0 a0_1 a0_2 = some r) ∧ Aside0 (kq ≤ kj3) ∧ Aside0 (wc.heap[gb101]? = some (.cells #[.int .i64 a0_0, .int .i64 a0_1, .int .i64 a0_2] 23 (0, 0))) ∧ Aside0 (wc.heap[gb116]? = some (.cells #[.bool t107, .bool t108, .int .i64 t109, .int .i64 t110, .int .i64 t111] 28 (0, 0))) ∧ Aside0 (Below w.heap.size w wc))
      case first => as_aux_lemma =>
       have H := HC19.out
       clear HC19
       by_cases c32 : t115 = 0
       ·rw [if_pos c32] at H
        have c32b0 : (t115 == 0) = true := beq_iff_eq.mpr c32
        have c32b1 : (t115 != 0) = false := bne_eq_false_iff_eq.mpr c32
        clear c32
        (first | rw [c32b0] | (simp only [i64_w, i32_w]; rw [c32b0]) | skip)
        as_aux_lemma =>
         have H' := Aside0.mk H
         clear H
         have hnb33 := NB116_101.out
         have hnc33 := NB101_116.out
         have hcz34_0 : w26.cell? ⟨gb116, 0, none⟩ = some (.bool false) := (blk_cell BK116.out 0).trans rfl
         have hcz34_1 : w26.cell? ⟨gb116, 1, none⟩ = some (.bool false) := (blk_cell BK116.out 1).trans rfl
         have hcz34_2 : w26.cell? ⟨gb116, 2, none⟩ = some (.int .i64 0) := (blk_cell BK116.out 2).trans rfl
         have hcz34_3 : w26.cell? ⟨gb116, 3, none⟩ = some (.int .i64 0) := (blk_cell BK116.out 3).trans rfl
         have hcz34_4 : w26.cell? ⟨gb116, 4, none⟩ = some (.int .i64 0) := (blk_cell BK116.out 4).trans rfl
         have hfz34_0 := blk_frozen BK116.out 0
         have hfz34_1 := blk_frozen BK116.out 1
         have hfz34_2 := blk_frozen BK116.out 2
         have hfz34_3 := blk_frozen BK116.out 3
         have hfz34_4 := blk_frozen BK116.out 4
         go_wp2
         go_meet
         case rel => exact ⟨_, ((t107 || (t108 || (!(t109 == 0) || (!(t110 == 0) || (!(t111 == 0))))))), (by first | rfl | (simp; done) | (simp [*]; done)), H', ⟨by have := HJ3.out; first | omega | exact Nat.le_refl _⟩, ⟨by (with_reducible repeat (first | refine blk_drewN ?_ _ | refine blk_drew ?_ | refine blk_alloc ?_ _)); refine blk_far ?_ NB101_116.out _; (with_reducible repeat (first | refine blk_drewN ?_ _ | refine blk_drew ?_ | refine blk_alloc ?_ _)); refine blk_far ?_ NB101_116.out _; (with_reducible repeat (first | refine blk_drewN ?_ _ | refine blk_drew ?_ | refine blk_alloc ?_ _)); refine blk_far ?_ NB101_116.out _; (with_reducible repeat (first | refine blk_drewN ?_ _ | refine blk_drew ?_ | refine blk_alloc ?_ _)); refine blk_far ?_ NB101_116.out _; (with_reducible repeat (first | refine blk_drewN ?_ _ | refine blk_drew ?_ | refine blk_alloc ?_ _)); refine blk_far ?_ NB101_116.out _; (with_reducible repeat (first | refine blk_drewN ?_ _ | refine blk_drew ?_ | refine blk_alloc ?_ _)); exact BK101.out⟩, ⟨by (with_reducible repeat (first | refine blk_drewN ?_ _ | refine blk_drew ?_ | refine blk_alloc ?_ _)); refine blk_put (cs := #[.bool t107, .bool t108, .int .i64 t109, .int .i64 t110, .int .i64 0]) ?_ 4 _ rfl; (with_reducible repeat (first | refine blk_drewN ?_ _ | refine blk_drew ?_ | refine blk_alloc ?_ _)); refine blk_put (cs := #[.bool t107, .bool t108, .int .i64 t109, .int .i64 0, .int .i64 0]) ?_ 3 _ rfl; (with_reducible repeat (first | refine blk_drewN ?_ _ | refine blk_drew ?_ | refine blk_alloc ?_ _)); refine blk_put (cs := #[.bool t107, .bool t108, .int .i64 0, .int .i64 0, .int .i64 0]) ?_ 2 _ rfl; (with_reducible repeat (first | refine blk_drewN ?_ _ | refine blk_drew ?_ | refine blk_alloc ?_ _)); refine blk_put (cs := #[.bool t107, .bool false, .int .i64 0, .int .i64 0, .int .i64 0]) ?_ 1 _ rfl; (with_reducible repeat (first | refine blk_drewN ?_ _ | refine blk_drew ?_ | refine blk_alloc ?_ _)); refine blk_put (cs := #[.bool false, .bool false, .int .i64 0, .int .i64 0, .int .i64 0]) ?_ 0 _ rfl; (with_reducible repeat (first | refine blk_drewN ?_ _ | refine blk_drew ?_ | refine blk_alloc ?_ _)); exact BK116.out⟩, ⟨by repeat (first | (with_reducible first | exact HB.out | apply below_alloc | apply pw_below_drewN | apply below_drew1 | refine below_set ?_ GE101.out | refine below_set ?_ GE116.out) | exact HB.out)⟩⟩
       ·rw [if_neg c32] at H
        have c32b0 : (t115 == 0) = false := beq_eq_false_iff_ne.mpr c32
        have c32b1 : (t115 != 0) = true := bne_iff_ne.mpr c32
        (first | rw [c32b0] | (simp only [i64_w, i32_w]; rw [c32b0]) | skip)
        as_aux_lemma =>
         have H' := Aside0.mk H
         clear H
         go_wp2
         go_meet
         case rel => exact ⟨_, (true), (by first | rfl | (simp; done) | (simp [*]; done)), H', ⟨by have := HJ3.out; first | omega | exact Nat.le_refl _⟩, ⟨by (with_reducible repeat (first | refine blk_drewN ?_ _ | refine blk_drew ?_ | refine blk_alloc ?_ _)); refine blk_far ?_ NB101_116.out _; (with_reducible repeat (first | refine blk_drewN ?_ _ | refine blk_drew ?_ | refine blk_alloc ?_ _)); refine blk_far ?_ NB101_116.out _; (with_reducible repeat (first | refine blk_drewN ?_ _ | refine blk_drew ?_ | refine blk_alloc ?_ _)); refine blk_far ?_ NB101_116.out _; (with_reducible repeat (first | refine blk_drewN ?_ _ | refine blk_drew ?_ | refine blk_alloc ?_ _)); refine blk_far ?_ NB101_116.out _; (with_reducible repeat (first | refine blk_drewN ?_ _ | refine blk_drew ?_ | refine blk_alloc ?_ _)); refine blk_far ?_ NB101_116.out _; (with_reducible repeat (first | refine blk_drewN ?_ _ | refine blk_drew ?_ | refine blk_alloc ?_ _)); exact BK101.out⟩, ⟨by (with_reducible repeat (first | refine blk_drewN ?_ _ | refine blk_drew ?_ | refine blk_alloc ?_ _)); refine blk_put (cs := #[.bool t107, .bool t108, .int .i64 t109, .int .i64 t110, .int .i64 0]) ?_ 4 _ rfl; (with_reducible repeat (first | refine blk_drewN ?_ _ | refine blk_drew ?_ | refine blk_alloc ?_ _)); refine blk_put (cs := #[.bool t107, .bool t108, .int .i64 t109, .int .i64 0, .int .i64 0]) ?_ 3 _ rfl; (with_reducible repeat (first | refine blk_drewN ?_ _ | refine blk_drew ?_ | refine blk_alloc ?_ _)); refine blk_put (cs := #[.bool t107, .bool t108, .int .i64 0, .int .i64 0, .int .i64 0]) ?_ 2 _ rfl; (with_reducible repeat (first | refine blk_drewN ?_ _ | refine blk_drew ?_ | refine blk_alloc ?_ _)); refine blk_put (cs := #[.bool t107, .bool false, .int .i64 0, .int .i64 0, .int .i64 0]) ?_ 1 _ rfl; (with_reducible repeat (first | refine blk_drewN ?_ _ | refine blk_drew ?_ | refine blk_alloc ?_ _)); refine blk_put (cs := #[.bool false, .bool false, .int .i64 0, .int .i64 0, .int .i64 0]) ?_ 0 _ rfl; (with_reducible repeat (first | refine blk_drewN ?_ _ | refine blk_drew ?_ | refine blk_alloc ?_ _)); exact BK116.out⟩, ⟨by repeat (first | (with_reducible first | exact HB.out | apply below_alloc | apply pw_below_drewN | apply below_drew1 | refine below_set ?_ GE101.out | refine below_set ?_ GE116.out) | exact HB.out)⟩⟩
      case rest => as_aux_lemma =>
       clear HC19
       try clear c1
       try clear p2
       try clear c3
       try clear p6
       try clear c7
       try clear c12
       try clear c15
       try clear c16
       try clear c16b0
       try clear c16b1
       try clear c17
       try clear c17b0
       try clear c17b1
       try clear c32
       try clear c32b0
       try clear c32b1
       try clear c33
       try clear hcz10_0
       try clear hcz10_1
       try clear hcz10_2
       try clear hcz34_0
       try clear hcz34_1
       try clear hcz34_2
       try clear hcz34_3
       try clear hcz34_4
       try clear hcz8_0
       try clear hcz8_1
       try clear hcz8_2
       try clear hfz10_0
       try clear hfz10_1
       try clear hfz10_2
       try clear hfz34_0
       try clear hfz34_1
       try clear hfz34_2
       try clear hfz34_3
       try clear hfz34_4
       try clear hfz8_0
       try clear hfz8_1
       try clear hfz8_2
       try clear p2
       obtain ⟨kq, x45_18, rfl, HA, HJ18, BK101, BK116, HB⟩ := hcut
       cases kq with
       | zero => exact absurd HA.out (by simp [rudderlaw15_LatchUnharmed.j1])
       | succ kj18 =>
        have H := HA.out
        clear HA
        simp only [rudderlaw15_LatchUnharmed.j1] at H
        by_cases c35 : x45_18 = true
        ·subst c35
         have H1 : (none) = some r := by rw [if_pos rfl] at H; exact H
         clear H
         have H := H1
         clear H1
         exact absurd H (by simp)
        ·replace c35 := Bool.eq_false_iff.mpr c35
         subst c35
         have H1 : (rudderlaw15_LatchUnharmed.l0 kj18 l1 ([] : List Bool) 0 0 a0_0 a0_1 a0_2) = some r := by rw [if_neg (show ¬ (false = true) by decide)] at H; exact H
         clear H
         have H := H1
         clear H1
         have H' := Aside0.mk H
         clear H
         go_wp2
         go_loopg [10, 11, 12] kj18 (fun kq v10 v11 v12 w' => ∃ (x10_3 : List Bool) (x11_3 : Int) (x12_3 : Int), v11 = .int .i64 x11_3 ∧ v12 = .int .i64 x12_3 ∧ Aside0 (rudderlaw15_LatchUnharmed.l0 kq l1 x10_3 x11_3 x12_3 a0_0 a0_1 a0_2 = some r) ∧ Aside0 (kq ≤ kj18) ∧ Aside0 (Kd.R Kd.bool 4 w' w.heap.size (fun _ => True) v10 x10_3) ∧ Aside0 (w'.heap[gb101]? = some (.cells #[.int .i64 a0_0, .int .i64 a0_1, .int .i64 a0_2] 23 (0, 0))) ∧ Aside0 (w'.heap[gb116]? = some (.cells #[.bool t107, .bool t108, .int .i64 t109, .int .i64 t110, .int .i64 t111] 28 (0, 0))) ∧ Aside0 (Below w.heap.size w w'))
         case atStart => exact ⟨(([] : List Bool)), (0), (0), (by first | rfl | (simp; done) | (simp [*]; done)), (by first | rfl | (simp; done) | (simp [*]; done)), H', ⟨Nat.le_refl _⟩, ⟨by first | exact Kd.R_nil _ _ _ _ _ | exact Kd.N_nil _ _ _ _ _ | exact Kd.V_nil _ _ _ _ _ | exact Kd.Q_nil _ _ _ _ _ | exact Kd.S_nil _ _ _ _ _⟩, ⟨by (with_reducible repeat (first | refine blk_drewN ?_ _ | refine blk_drew ?_ | refine blk_alloc ?_ _)); exact BK101.out⟩, ⟨by (with_reducible repeat (first | refine blk_drewN ?_ _ | refine blk_drew ?_ | refine blk_alloc ?_ _)); exact BK116.out⟩, ⟨by repeat (first | (with_reducible first | exact HB.out | apply below_alloc | apply pw_below_drewN | apply below_drew1 | refine below_set ?_ GE101.out | refine below_set ?_ GE116.out) | exact HB.out)⟩⟩
         case round =>
          clear H'
          try clear c1
          try clear p2
          try clear c3
          try clear p6
          try clear c7
          try clear c12
          try clear c15
          try clear c16
          try clear c16b0
          try clear c16b1
          try clear c17
          try clear c17b0
          try clear c17b1
          try clear c32
          try clear c32b0
          try clear c32b1
          try clear c33
          try clear c35
          try clear hcz10_0
          try clear hcz10_1
          try clear hcz10_2
          try clear hcz34_0
          try clear hcz34_1
          try clear hcz34_2
          try clear hcz34_3
          try clear hcz34_4
          try clear hcz8_0
          try clear hcz8_1
          try clear hcz8_2
          try clear hfz10_0
          try clear hfz10_1
          try clear hfz10_2
          try clear hfz34_0
          try clear hfz34_1
          try clear hfz34_2
          try clear hfz34_3
          try clear hfz34_4
          try clear hfz8_0
          try clear hfz8_1
          try clear hfz8_2
          try clear p2
          try clear p6
          obtain ⟨x10_3, x11_3, x12_3, rfl, rfl, HA, HK3, HO_10, BK101, BK116, HB⟩ := hrel
          cases gk with
          | zero => exact absurd HA.out (by simp [rudderlaw15_LatchUnharmed.l0])
          | succ k3 =>
           have H := HA.out
           clear HA
           simp only [rudderlaw15_LatchUnharmed.l0] at H
           by_cases c36 : x12_3 < (l1.length : Int)
           ·rw [if_pos c36] at H
            have c36b0 : decide (x12_3 < (l1.length : Int)) = true := decide_eq_true c36
            clear c36
            by_cases c37 : 0 ≤ x12_3
            ·rw [if_pos c37] at H
             have c37b0 : decide (0 ≤ x12_3) = true := decide_eq_true c37
             clear c37
             obtain ⟨bq38, hbq38⟩ : ∃ b_ : Bool, b_ = (rdOf false l1 x12_3) := ⟨_, rfl⟩
             replace H : (if bq38 = true then (if (wrap64 (x11_3 + 1)) < a0_0 then (if x10_3.length < 140737488355328 then (rudderlaw15_LatchUnharmed.l0 k3 l1 (x10_3 ++ [decide ((wrap64 (x11_3 + 1)) < a0_0)]) (wrap64 (x11_3 + 1)) (wrap64 (x12_3 + 1)) a0_0 a0_1 a0_2) else (none)) else (if x10_3.length < 140737488355328 then (rudderlaw15_LatchUnharmed.l0 k3 l1 (x10_3 ++ [decide ((wrap64 (x11_3 + 1)) < a0_0)]) 0 (wrap64 (x12_3 + 1)) a0_0 a0_1 a0_2) else (none))) else (if x10_3.length < 140737488355328 then (rudderlaw15_LatchUnharmed.l0 k3 l1 (x10_3 ++ [false]) 0 (wrap64 (x12_3 + 1)) a0_0 a0_1 a0_2) else (none))) = some r := by rw [← hbq38] at H; exact H
             have Nbq38 := Aside0.mk hbq38
             clear hbq38
             by_cases c39 : bq38 = true
             ·subst c39
              have H1 : (if (wrap64 (x11_3 + 1)) < a0_0 then (if x10_3.length < 140737488355328 then (rudderlaw15_LatchUnharmed.l0 k3 l1 (x10_3 ++ [decide ((wrap64 (x11_3 + 1)) < a0_0)]) (wrap64 (x11_3 + 1)) (wrap64 (x12_3 + 1)) a0_0 a0_1 a0_2) else (none)) else (if x10_3.length < 140737488355328 then (rudderlaw15_LatchUnharmed.l0 k3 l1 (x10_3 ++ [decide ((wrap64 (x11_3 + 1)) < a0_0)]) 0 (wrap64 (x12_3 + 1)) a0_0 a0_1 a0_2) else (none))) = some r := by rw [if_pos rfl] at H; exact H
              clear H
              have H := H1
              clear H1
              by_cases c40 : (wrap64 (x11_3 + 1)) < a0_0
              ·rw [if_pos c40] at H
               have c40b0 : decide ((wrap64 (x11_3 + 1)) < a0_0) = true := decide_eq_true c40
               clear c40
               by_cases c41 : x10_3.length < 140737488355328
               ·rw [if_pos c41] at H
                have LMc41 := Aside0.mk c41
                clear c41
                obtain ⟨y118, hy118⟩ : ∃ y_ : List Bool, y_ = (x10_3 ++ [decide ((wrap64 (x11_3 + 1)) < a0_0)]) := ⟨_, rfl⟩
                replace H : (rudderlaw15_LatchUnharmed.l0 k3 l1 y118 (wrap64 (x11_3 + 1)) (wrap64 (x12_3 + 1)) a0_0 a0_1 a0_2) = some r := by first | (rw [hy118]; with_reducible exact H) | (have H2_ := (Option.bind_some _ _).symm.trans H; rw [hy118]; with_reducible exact H2_) | (have H2_ := (Option.bind_some _ _).symm.trans H; with_reducible exact H2_) | with_reducible exact H | (rw [hy118]; exact H) | exact H
                have Ny118 := Aside0.mk hy118
                clear hy118
                as_aux_lemma =>
                 have H' := Aside0.mk H
                 clear H
                 have p117 : 0 ≤ (x12_3 : Int) := of_decide_eq_true (by first | (with_reducible assumption) | assumption)
                 have q117 : x12_3 < (l1.length : Int) := of_decide_eq_true (by first | (with_reducible assumption) | assumption)
                 obtain ⟨ad117, e117, hx117_0⟩ := Kd.at_bool HR1.out x12_3 p117 q117
                 (try rw [← Nbq38.out] at hx117_0)
                 cases e117
                 replace hx117_0 := (HB.out.cell (World.block_lt_of_cell? w _ hx117_0)).trans hx117_0
                 replace p117 := eq_true p117
                 replace q117 := eq_true q117
                 have hnb42 := NB101_116.out
                 have hnc42 := NB116_101.out
                 have hcz43_0 : wr.cell? ⟨gb101, 0, none⟩ = some (.int .i64 a0_0) := (blk_cell BK101.out 0).trans rfl
                 have hcz43_1 : wr.cell? ⟨gb101, 1, none⟩ = some (.int .i64 a0_1) := (blk_cell BK101.out 1).trans rfl
                 have hcz43_2 : wr.cell? ⟨gb101, 2, none⟩ = some (.int .i64 a0_2) := (blk_cell BK101.out 2).trans rfl
                 have hfz43_0 := blk_frozen BK101.out 0
                 have hfz43_1 := blk_frozen BK101.out 1
                 have hfz43_2 := blk_frozen BK101.out 2
                 go_wp2_with (first | ((with_reducible refine gate_builtin (b := .append) (xs := #[.tmp 66, .tmp 68]) rfl ?_); (try (refine gate_guard (by rfl) ?_; dsimp only)); at_builtin; refine Kd.R_append Kd.bool (w0 := w) w.heap.size rfl (.tmp 66) (.tmp 68) 24 4 (.bool false) 1 rfl Try.underlying24 info4 rfl (by decide) (by omega) u10 x10_3 true [.bool true] (fun _ => True) (fun _ => False) rfl rfl ?aP (fun _ hk => hk.elim) ?aF ?aO ?aB ?aS ?aL ?_; (case aP => exact rfl); (case aB => exact (by repeat (first | (with_reducible first | exact HB.out | apply below_alloc | apply pw_below_drewN | apply below_drew1 | refine below_set ?_ GE101.out | refine below_set ?_ GE116.out) | exact HB.out))); (case aF => exact (fun _ _ => trivial)); (case aO => exact (by (with_reducible repeat (first | apply Kd.R_alloc | apply Kd.R_drewN | apply Kd.R_drew)); exact HO_10.out)); (case aS => exact (below_size (by repeat (first | (with_reducible first | exact HB.out | apply below_alloc | apply pw_below_drewN | apply below_drew1 | refine below_set ?_ GE101.out | refine below_set ?_ GE116.out) | exact HB.out)))); (case aL => have := LMc41.out; omega); intro v119 w44 ho hb hg hat; rw [show x10_3 ++ [true] = y118 from by rw [Ny118.out, c40b0]] at ho; have n0_ := Aside0.mk (blk_grown (g := gb101) (o := .cells #[.int .i64 a0_0, .int .i64 a0_1, .int .i64 a0_2] 23 (0, 0)) (by (with_reducible repeat (first | refine blk_drewN ?_ _ | refine blk_drew ?_ | refine blk_alloc ?_ _)); exact BK101.out) hg (Kd.R_ne HO_10.out BK101.out (by decide))); have n1_ := Aside0.mk (blk_grown (g := gb116) (o := .cells #[.bool t107, .bool t108, .int .i64 t109, .int .i64 t110, .int .i64 t111] 28 (0, 0)) (by (with_reducible repeat (first | refine blk_drewN ?_ _ | refine blk_drew ?_ | refine blk_alloc ?_ _)); exact BK116.out) hg (Kd.R_ne HO_10.out BK116.out (by decide))); have n2_ := Aside0.mk (hb); have n3_ := Aside0.mk (ho); clear BK101; clear BK116; clear HB; clear HO_10; have BK101 := n0_; have BK116 := n1_; have HB := n2_; have HO120 := n3_; clear n0_ n1_ n2_ n3_; clear ho hb hg hat))
                 go_roundg k3
                 case measure => have := HJ3.out; have := HJ18.out; have := HK3.out; omega
                 case rel => exact ⟨(y118), (wrap64 (x11_3 + 1)), (wrap64 (x12_3 + 1)), (by first | rfl | (simp; done) | (simp [*]; done)), (by first | rfl | (simp; done) | (simp [*]; done)), H', ⟨by have := HJ3.out; have := HJ18.out; have := HK3.out; omega⟩, ⟨by (with_reducible repeat (first | apply Kd.R_alloc | apply Kd.R_drewN | apply Kd.R_drew)); exact HO120.out⟩, ⟨by (with_reducible repeat (first | refine blk_drewN ?_ _ | refine blk_drew ?_ | refine blk_alloc ?_ _)); exact BK101.out⟩, ⟨by (with_reducible repeat (first | refine blk_drewN ?_ _ | refine blk_drew ?_ | refine blk_alloc ?_ _)); exact BK116.out⟩, ⟨by repeat (first | (with_reducible first | exact HB.out | apply below_alloc | apply pw_below_drewN | apply below_drew1 | refine below_set ?_ GE101.out | refine below_set ?_ GE116.out) | exact HB.out)⟩⟩
               ·rw [if_neg c41] at H
                exact absurd H (by simp)
              ·rw [if_neg c40] at H
               have c40b0 : decide ((wrap64 (x11_3 + 1)) < a0_0) = false := decide_eq_false c40
               clear c40
               by_cases c45 : x10_3.length < 140737488355328
               ·rw [if_pos c45] at H
                have LMc45 := Aside0.mk c45
                clear c45
                obtain ⟨y121, hy121⟩ : ∃ y_ : List Bool, y_ = (x10_3 ++ [decide ((wrap64 (x11_3 + 1)) < a0_0)]) := ⟨_, rfl⟩
                replace H : (rudderlaw15_LatchUnharmed.l0 k3 l1 y121 0 (wrap64 (x12_3 + 1)) a0_0 a0_1 a0_2) = some r := by first | (rw [hy121]; with_reducible exact H) | (have H2_ := (Option.bind_some _ _).symm.trans H; rw [hy121]; with_reducible exact H2_) | (have H2_ := (Option.bind_some _ _).symm.trans H; with_reducible exact H2_) | with_reducible exact H | (rw [hy121]; exact H) | exact H
                have Ny121 := Aside0.mk hy121
                clear hy121
                as_aux_lemma =>
                 have H' := Aside0.mk H
                 clear H
                 have p117 : 0 ≤ (x12_3 : Int) := of_decide_eq_true (by first | (with_reducible assumption) | assumption)
                 have q117 : x12_3 < (l1.length : Int) := of_decide_eq_true (by first | (with_reducible assumption) | assumption)
                 obtain ⟨ad117, e117, hx117_0⟩ := Kd.at_bool HR1.out x12_3 p117 q117
                 (try rw [← Nbq38.out] at hx117_0)
                 cases e117
                 replace hx117_0 := (HB.out.cell (World.block_lt_of_cell? w _ hx117_0)).trans hx117_0
                 replace p117 := eq_true p117
                 replace q117 := eq_true q117
                 have hnb46 := NB101_116.out
                 have hnc46 := NB116_101.out
                 have hcz47_0 : wr.cell? ⟨gb101, 0, none⟩ = some (.int .i64 a0_0) := (blk_cell BK101.out 0).trans rfl
                 have hcz47_1 : wr.cell? ⟨gb101, 1, none⟩ = some (.int .i64 a0_1) := (blk_cell BK101.out 1).trans rfl
                 have hcz47_2 : wr.cell? ⟨gb101, 2, none⟩ = some (.int .i64 a0_2) := (blk_cell BK101.out 2).trans rfl
                 have hfz47_0 := blk_frozen BK101.out 0
                 have hfz47_1 := blk_frozen BK101.out 1
                 have hfz47_2 := blk_frozen BK101.out 2
                 go_wp2_with (first | ((with_reducible refine gate_builtin (b := .append) (xs := #[.tmp 66, .tmp 68]) rfl ?_); (try (refine gate_guard (by rfl) ?_; dsimp only)); at_builtin; refine Kd.R_append Kd.bool (w0 := w) w.heap.size rfl (.tmp 66) (.tmp 68) 24 4 (.bool false) 1 rfl Try.underlying24 info4 rfl (by decide) (by omega) u10 x10_3 false [.bool false] (fun _ => True) (fun _ => False) rfl rfl ?aP (fun _ hk => hk.elim) ?aF ?aO ?aB ?aS ?aL ?_; (case aP => exact rfl); (case aB => exact (by repeat (first | (with_reducible first | exact HB.out | apply below_alloc | apply pw_below_drewN | apply below_drew1 | refine below_set ?_ GE101.out | refine below_set ?_ GE116.out) | exact HB.out))); (case aF => exact (fun _ _ => trivial)); (case aO => exact (by (with_reducible repeat (first | apply Kd.R_alloc | apply Kd.R_drewN | apply Kd.R_drew)); exact HO_10.out)); (case aS => exact (below_size (by repeat (first | (with_reducible first | exact HB.out | apply below_alloc | apply pw_below_drewN | apply below_drew1 | refine below_set ?_ GE101.out | refine below_set ?_ GE116.out) | exact HB.out)))); (case aL => have := LMc45.out; omega); intro v122 w48 ho hb hg hat; rw [show x10_3 ++ [false] = y121 from by rw [Ny121.out, c40b0]] at ho; have n0_ := Aside0.mk (blk_grown (g := gb101) (o := .cells #[.int .i64 a0_0, .int .i64 a0_1, .int .i64 a0_2] 23 (0, 0)) (by (with_reducible repeat (first | refine blk_drewN ?_ _ | refine blk_drew ?_ | refine blk_alloc ?_ _)); exact BK101.out) hg (Kd.R_ne HO_10.out BK101.out (by decide))); have n1_ := Aside0.mk (blk_grown (g := gb116) (o := .cells #[.bool t107, .bool t108, .int .i64 t109, .int .i64 t110, .int .i64 t111] 28 (0, 0)) (by (with_reducible repeat (first | refine blk_drewN ?_ _ | refine blk_drew ?_ | refine blk_alloc ?_ _)); exact BK116.out) hg (Kd.R_ne HO_10.out BK116.out (by decide))); have n2_ := Aside0.mk (hb); have n3_ := Aside0.mk (ho); clear BK101; clear BK116; clear HB; clear HO_10; have BK101 := n0_; have BK116 := n1_; have HB := n2_; have HO123 := n3_; clear n0_ n1_ n2_ n3_; clear ho hb hg hat))
                 go_roundg k3
                 case measure => have := HJ3.out; have := HJ18.out; have := HK3.out; omega
                 case rel => exact ⟨(y121), (0), (wrap64 (x12_3 + 1)), (by first | rfl | (simp; done) | (simp [*]; done)), (by first | rfl | (simp; done) | (simp [*]; done)), H', ⟨by have := HJ3.out; have := HJ18.out; have := HK3.out; omega⟩, ⟨by (with_reducible repeat (first | apply Kd.R_alloc | apply Kd.R_drewN | apply Kd.R_drew)); exact HO123.out⟩, ⟨by (with_reducible repeat (first | refine blk_drewN ?_ _ | refine blk_drew ?_ | refine blk_alloc ?_ _)); exact BK101.out⟩, ⟨by (with_reducible repeat (first | refine blk_drewN ?_ _ | refine blk_drew ?_ | refine blk_alloc ?_ _)); exact BK116.out⟩, ⟨by repeat (first | (with_reducible first | exact HB.out | apply below_alloc | apply pw_below_drewN | apply below_drew1 | refine below_set ?_ GE101.out | refine below_set ?_ GE116.out) | exact HB.out)⟩⟩
               ·rw [if_neg c45] at H
                exact absurd H (by simp)
             ·replace c39 := Bool.eq_false_iff.mpr c39
              subst c39
              have H1 : (if x10_3.length < 140737488355328 then (rudderlaw15_LatchUnharmed.l0 k3 l1 (x10_3 ++ [false]) 0 (wrap64 (x12_3 + 1)) a0_0 a0_1 a0_2) else (none)) = some r := by rw [if_neg (show ¬ (false = true) by decide)] at H; exact H
              clear H
              have H := H1
              clear H1
              by_cases c49 : x10_3.length < 140737488355328
              ·rw [if_pos c49] at H
               have LMc49 := Aside0.mk c49
               clear c49
               obtain ⟨y124, hy124⟩ : ∃ y_ : List Bool, y_ = (x10_3 ++ [false]) := ⟨_, rfl⟩
               replace H : (rudderlaw15_LatchUnharmed.l0 k3 l1 y124 0 (wrap64 (x12_3 + 1)) a0_0 a0_1 a0_2) = some r := by first | (rw [hy124]; with_reducible exact H) | (have H2_ := (Option.bind_some _ _).symm.trans H; rw [hy124]; with_reducible exact H2_) | (have H2_ := (Option.bind_some _ _).symm.trans H; with_reducible exact H2_) | with_reducible exact H | (rw [hy124]; exact H) | exact H
               have Ny124 := Aside0.mk hy124
               clear hy124
               as_aux_lemma =>
                have H' := Aside0.mk H
                clear H
                have p117 : 0 ≤ (x12_3 : Int) := of_decide_eq_true (by first | (with_reducible assumption) | assumption)
                have q117 : x12_3 < (l1.length : Int) := of_decide_eq_true (by first | (with_reducible assumption) | assumption)
                obtain ⟨ad117, e117, hx117_0⟩ := Kd.at_bool HR1.out x12_3 p117 q117
                (try rw [← Nbq38.out] at hx117_0)
                cases e117
                replace hx117_0 := (HB.out.cell (World.block_lt_of_cell? w _ hx117_0)).trans hx117_0
                replace p117 := eq_true p117
                replace q117 := eq_true q117
                go_wp2_with (first | ((with_reducible refine gate_builtin (b := .append) (xs := #[.tmp 66, .tmp 68]) rfl ?_); (try (refine gate_guard (by rfl) ?_; dsimp only)); at_builtin; refine Kd.R_append Kd.bool (w0 := w) w.heap.size rfl (.tmp 66) (.tmp 68) 24 4 (.bool false) 1 rfl Try.underlying24 info4 rfl (by decide) (by omega) u10 x10_3 false [.bool false] (fun _ => True) (fun _ => False) rfl rfl ?aP (fun _ hk => hk.elim) ?aF ?aO ?aB ?aS ?aL ?_; (case aP => exact rfl); (case aB => exact (by repeat (first | (with_reducible first | exact HB.out | apply below_alloc | apply pw_below_drewN | apply below_drew1 | refine below_set ?_ GE101.out | refine below_set ?_ GE116.out) | exact HB.out))); (case aF => exact (fun _ _ => trivial)); (case aO => exact (by (with_reducible repeat (first | apply Kd.R_alloc | apply Kd.R_drewN | apply Kd.R_drew)); exact HO_10.out)); (case aS => exact (below_size (by repeat (first | (with_reducible first | exact HB.out | apply below_alloc | apply pw_below_drewN | apply below_drew1 | refine below_set ?_ GE101.out | refine below_set ?_ GE116.out) | exact HB.out)))); (case aL => have := LMc49.out; omega); intro v125 w50 ho hb hg hat; rw [← Ny124.out] at ho; have n0_ := Aside0.mk (blk_grown (g := gb101) (o := .cells #[.int .i64 a0_0, .int .i64 a0_1, .int .i64 a0_2] 23 (0, 0)) (by (with_reducible repeat (first | refine blk_drewN ?_ _ | refine blk_drew ?_ | refine blk_alloc ?_ _)); exact BK101.out) hg (Kd.R_ne HO_10.out BK101.out (by decide))); have n1_ := Aside0.mk (blk_grown (g := gb116) (o := .cells #[.bool t107, .bool t108, .int .i64 t109, .int .i64 t110, .int .i64 t111] 28 (0, 0)) (by (with_reducible repeat (first | refine blk_drewN ?_ _ | refine blk_drew ?_ | refine blk_alloc ?_ _)); exact BK116.out) hg (Kd.R_ne HO_10.out BK116.out (by decide))); have n2_ := Aside0.mk (hb); have n3_ := Aside0.mk (ho); clear BK101; clear BK116; clear HB; clear HO_10; have BK101 := n0_; have BK116 := n1_; have HB := n2_; have HO126 := n3_; clear n0_ n1_ n2_ n3_; clear ho hb hg hat))
                go_roundg k3
                case measure => have := HJ3.out; have := HJ18.out; have := HK3.out; omega
                case rel => exact ⟨(y124), (0), (wrap64 (x12_3 + 1)), (by first | rfl | (simp; done) | (simp [*]; done)), (by first | rfl | (simp; done) | (simp [*]; done)), H', ⟨by have := HJ3.out; have := HJ18.out; have := HK3.out; omega⟩, ⟨by (with_reducible repeat (first | apply Kd.R_alloc | apply Kd.R_drewN | apply Kd.R_drew)); exact HO126.out⟩, ⟨by (with_reducible repeat (first | refine blk_drewN ?_ _ | refine blk_drew ?_ | refine blk_alloc ?_ _)); exact BK101.out⟩, ⟨by (with_reducible repeat (first | refine blk_drewN ?_ _ | refine blk_drew ?_ | refine blk_alloc ?_ _)); exact BK116.out⟩, ⟨by repeat (first | (with_reducible first | exact HB.out | apply below_alloc | apply pw_below_drewN | apply below_drew1 | refine below_set ?_ GE101.out | refine below_set ?_ GE116.out) | exact HB.out)⟩⟩
              ·rw [if_neg c49] at H
               exact absurd H (by simp)
            ·rw [if_neg c37] at H
             exact absurd H (by simp)
           ·rw [if_neg c36] at H
            have c36b0 : decide (x12_3 < (l1.length : Int)) = false := decide_eq_false c36
            clear c36
            replace H := Option.bind_eq_some_iff.mp H
            obtain ⟨⟨t127, t128, t129, t130, t131, t132, t135⟩, A510, H⟩ := H
            replace H : (rudderlaw15_LatchUnharmed.l1 k3 l1 x11_3 t132 t135 0 a0_0 a0_1 a0_2 t127 t128 t129 t130 t131) = some r := H
            have A51 := Aside0.mk A510
            clear A510
            have H' := Aside0.mk H
            clear H
            have hnb52 := NB101_116.out
            have hnc52 := NB116_101.out
            have hcz53_0 : wr.cell? ⟨gb101, 0, none⟩ = some (.int .i64 a0_0) := (blk_cell BK101.out 0).trans rfl
            have hcz53_1 : wr.cell? ⟨gb101, 1, none⟩ = some (.int .i64 a0_1) := (blk_cell BK101.out 1).trans rfl
            have hcz53_2 : wr.cell? ⟨gb101, 2, none⟩ = some (.int .i64 a0_2) := (blk_cell BK101.out 2).trans rfl
            have hfz53_0 := blk_frozen BK101.out 0
            have hfz53_1 := blk_frozen BK101.out 1
            have hfz53_2 := blk_frozen BK101.out 2
            obtain ⟨Ao54, co54, eo54⟩ := Kd.R_slice HO_10.out
            subst eo54
            go_wp2_with (first | ((with_reducible refine gate_callee (f := 17) rfl ?_); refine goesL_ (some 73) rfl rfl Try.func17 (by kernel_rfl) rfl #[.agg #[.int .i64 a0_0, .int .i64 a0_1, .int .i64 a0_2], .slice Ao54 x10_3.length co54] rfl (by (try simp only [List.map_toArray, List.map_cons, List.map_nil]); first | done | rfl | (simp only [List.length_drop, List.length_take]; rfl)) ?_; (with_reducible refine (latch_Run.calls k3 a0_0 a0_1 a0_2 _ _ x10_3 t127 t128 t129 t130 t131 t132 t135 _ ?side1 ?side2 A51.out).mono ?_); (case side1 => repeat (first | exact (Kd.R_reads' HO_10.out).2.2 | (with_reducible refine Kd.C_alloc ?_ _) | (with_reducible refine Kd.C_drewN ?_ _) | (with_reducible refine Kd.C_drew ?_))); (case side2 => exact (Kd.R_reads' HO_10.out).2.1); rintro e w55 ⟨v133, rfl, ho0, hb⟩; refine ⟨_, rfl, ?_⟩; have n0_ := Aside0.mk (Kd.R_below (by (with_reducible repeat (first | apply Kd.R_alloc | apply Kd.R_drewN | apply Kd.R_drew)); exact HO_10.out) hb); have n1_ := Aside0.mk (Kd.R_lower ho0 (below_size (by repeat (first | (with_reducible first | exact HB.out | apply below_alloc | apply pw_below_drewN | apply below_drew1 | refine below_set ?_ GE101.out | refine below_set ?_ GE116.out) | exact HB.out)))); have n2_ := Aside0.mk (blk_below (g := gb101) (o := .cells #[.int .i64 a0_0, .int .i64 a0_1, .int .i64 a0_2] 23 (0, 0)) (by (with_reducible repeat (first | refine blk_drewN ?_ _ | refine blk_drew ?_ | refine blk_alloc ?_ _)); exact BK101.out) hb); have n3_ := Aside0.mk (blk_below (g := gb116) (o := .cells #[.bool t107, .bool t108, .int .i64 t109, .int .i64 t110, .int .i64 t111] 28 (0, 0)) (by (with_reducible repeat (first | refine blk_drewN ?_ _ | refine blk_drew ?_ | refine blk_alloc ?_ _)); exact BK116.out) hb); have n4_ := Aside0.mk (below_step (by repeat (first | (with_reducible first | exact HB.out | apply below_alloc | apply pw_below_drewN | apply below_drew1 | refine below_set ?_ GE101.out | refine below_set ?_ GE116.out) | exact HB.out)) hb); clear HO_10; clear BK101; clear BK116; clear HB; have HO_10 := n0_; have HO134 := n1_; have BK101 := n2_; have BK116 := n3_; have HB := n4_; clear n0_ n1_ n2_ n3_ n4_; (try clear hb); (try clear hb2); (try clear hk); (try clear hi); (try clear ho0)) | ((with_reducible refine gate_dst (N := 14) rfl ?_); (try (refine gate_guard (by rfl) ?_; dsimp only)); refine box_event ?hg (N := 14) ?hd (cs := #[.bool false, .bool false, .int .i64 0, .int .i64 0, .int .i64 0]) (t := 28) ?hr ?_; (case hd => rfl); (case hg => rfl); (case hr => first | (go_simp; done) | (go_simp; rfl)); intro gb136 hg w56 hbox hb; have n0_ := Aside0.mk (Kd.R_below (by (with_reducible repeat (first | apply Kd.R_alloc | apply Kd.R_drewN | apply Kd.R_drew)); exact HO_10.out) hb); have n1_ := Aside0.mk (Kd.R_below (by (with_reducible repeat (first | apply Kd.R_alloc | apply Kd.R_drewN | apply Kd.R_drew)); exact HO134.out) hb); have n2_ := Aside0.mk (blk_below (g := gb101) (o := .cells #[.int .i64 a0_0, .int .i64 a0_1, .int .i64 a0_2] 23 (0, 0)) (by (with_reducible repeat (first | refine blk_drewN ?_ _ | refine blk_drew ?_ | refine blk_alloc ?_ _)); exact BK101.out) hb); have n3_ := Aside0.mk (blk_below (g := gb116) (o := .cells #[.bool t107, .bool t108, .int .i64 t109, .int .i64 t110, .int .i64 t111] 28 (0, 0)) (by (with_reducible repeat (first | refine blk_drewN ?_ _ | refine blk_drew ?_ | refine blk_alloc ?_ _)); exact BK116.out) hb); have n4_ := Aside0.mk (below_step (by repeat (first | (with_reducible first | exact HB.out | apply below_alloc | apply pw_below_drewN | apply below_drew1 | refine below_set ?_ GE101.out | refine below_set ?_ GE116.out) | exact HB.out)) hb); have n5_ := Aside0.mk (hbox); have n6_ := Aside0.mk ((by rw [hg]; exact (below_size (by repeat (first | (with_reducible first | exact HB.out | apply below_alloc | apply pw_below_drewN | apply below_drew1 | refine below_set ?_ GE101.out | refine below_set ?_ GE116.out) | exact HB.out))) : w.heap.size ≤ gb136)); have n7_ := Aside0.mk ((by rw [hg]; exact (below_size (by repeat (first | (with_reducible first | exact HB.out | apply below_alloc | apply pw_below_drewN | apply below_drew1 | refine below_set ?_ GE101.out | refine below_set ?_ GE116.out) | exact HB.out))) : w.heap.size ≤ gb136)); have n8_ := Aside0.mk ((by rw [hg]; exact Nat.ne_of_lt (blk_lt (g := gb101) (o := .cells #[.int .i64 a0_0, .int .i64 a0_1, .int .i64 a0_2] 23 (0, 0)) (by (with_reducible repeat (first | refine blk_drewN ?_ _ | refine blk_drew ?_ | refine blk_alloc ?_ _)); exact BK101.out)) : gb101 ≠ gb136)); have n9_ := Aside0.mk ((by rw [hg]; exact Nat.ne_of_gt (blk_lt (g := gb101) (o := .cells #[.int .i64 a0_0, .int .i64 a0_1, .int .i64 a0_2] 23 (0, 0)) (by (with_reducible repeat (first | refine blk_drewN ?_ _ | refine blk_drew ?_ | refine blk_alloc ?_ _)); exact BK101.out)) : gb136 ≠ gb101)); have n10_ := Aside0.mk ((by rw [hg]; exact Nat.ne_of_lt (blk_lt (g := gb116) (o := .cells #[.bool t107, .bool t108, .int .i64 t109, .int .i64 t110, .int .i64 t111] 28 (0, 0)) (by (with_reducible repeat (first | refine blk_drewN ?_ _ | refine blk_drew ?_ | refine blk_alloc ?_ _)); exact BK116.out)) : gb116 ≠ gb136)); have n11_ := Aside0.mk ((by rw [hg]; exact Nat.ne_of_gt (blk_lt (g := gb116) (o := .cells #[.bool t107, .bool t108, .int .i64 t109, .int .i64 t110, .int .i64 t111] 28 (0, 0)) (by (with_reducible repeat (first | refine blk_drewN ?_ _ | refine blk_drew ?_ | refine blk_alloc ?_ _)); exact BK116.out)) : gb136 ≠ gb116)); clear HO_10; clear HO134; clear BK101; clear BK116; clear HB; have HO_10 := n0_; have HO134 := n1_; have BK101 := n2_; have BK116 := n3_; have HB := n4_; have BK136 := n5_; have GW136 := n6_; have GE136 := n7_; have NB101_136 := n8_; have NB136_101 := n9_; have NB116_136 := n10_; have NB136_116 := n11_; clear n0_ n1_ n2_ n3_ n4_ n5_ n6_ n7_ n8_ n9_ n10_ n11_; clear hb hbox hg; have hnb57 := NB136_101.out; have hnc57 := NB101_136.out; have hnb58 := NB136_116.out; have hnc58 := NB116_136.out; have hcz59_0 : w56.cell? ⟨gb136, 0, none⟩ = some (.bool false) := (blk_cell BK136.out 0).trans rfl; have hcz59_1 : w56.cell? ⟨gb136, 1, none⟩ = some (.bool false) := (blk_cell BK136.out 1).trans rfl; have hcz59_2 : w56.cell? ⟨gb136, 2, none⟩ = some (.int .i64 0) := (blk_cell BK136.out 2).trans rfl; have hcz59_3 : w56.cell? ⟨gb136, 3, none⟩ = some (.int .i64 0) := (blk_cell BK136.out 3).trans rfl; have hcz59_4 : w56.cell? ⟨gb136, 4, none⟩ = some (.int .i64 0) := (blk_cell BK136.out 4).trans rfl; have hfz59_0 := blk_frozen BK136.out 0; have hfz59_1 := blk_frozen BK136.out 1; have hfz59_2 := blk_frozen BK136.out 2; have hfz59_3 := blk_frozen BK136.out 3; have hfz59_4 := blk_frozen BK136.out 4))
            go_loopg [17] k3 (fun kq v17 w' => ∃ (x17_4 : Int), v17 = .int .i64 x17_4 ∧ Aside0 (rudderlaw15_LatchUnharmed.l1 kq l1 x11_3 t132 t135 x17_4 a0_0 a0_1 a0_2 t127 t128 t129 t130 t131 = some r) ∧ Aside0 (kq ≤ k3) ∧ Aside0 (Kd.R (Kd.int .i64) 3 w' w.heap.size (fun _ => True) v133 t132) ∧ Aside0 (w'.heap[gb101]? = some (.cells #[.int .i64 a0_0, .int .i64 a0_1, .int .i64 a0_2] 23 (0, 0))) ∧ Aside0 (w'.heap[gb116]? = some (.cells #[.bool t107, .bool t108, .int .i64 t109, .int .i64 t110, .int .i64 t111] 28 (0, 0))) ∧ Aside0 (w'.heap[gb136]? = some (.cells #[.bool t127, .bool t128, .int .i64 t129, .int .i64 t130, .int .i64 t131] 28 (0, 0))) ∧ Aside0 (Below w.heap.size w w'))
            case atStart => exact ⟨(0), (by first | rfl | (simp; done) | (simp [*]; done)), H', ⟨Nat.le_refl _⟩, ⟨by (with_reducible repeat (first | apply Kd.R_alloc | apply Kd.R_drewN | apply Kd.R_drew)); exact Kd.R_mono (Kd.R_far (p := ⟨gb136, 4, none⟩) (Kd.R_far (p := ⟨gb136, 3, none⟩) (Kd.R_far (p := ⟨gb136, 2, none⟩) (Kd.R_far (p := ⟨gb136, 1, none⟩) (Kd.R_far (p := ⟨gb136, 0, none⟩) (Kd.R_types HO134.out BK136.out (by decide)) (fun _ hk => hk.2) (.bool t127)) (fun _ hk => hk.2) (.bool t128)) (fun _ hk => hk.2) (.int .i64 t129)) (fun _ hk => hk.2) (.int .i64 t130)) (fun _ hk => hk.2) (.int .i64 t131)) (fun _ hk => trivial)⟩, ⟨by (with_reducible repeat (first | refine blk_drewN ?_ _ | refine blk_drew ?_ | refine blk_alloc ?_ _)); refine blk_far ?_ NB101_136.out _; (with_reducible repeat (first | refine blk_drewN ?_ _ | refine blk_drew ?_ | refine blk_alloc ?_ _)); refine blk_far ?_ NB101_136.out _; (with_reducible repeat (first | refine blk_drewN ?_ _ | refine blk_drew ?_ | refine blk_alloc ?_ _)); refine blk_far ?_ NB101_136.out _; (with_reducible repeat (first | refine blk_drewN ?_ _ | refine blk_drew ?_ | refine blk_alloc ?_ _)); refine blk_far ?_ NB101_136.out _; (with_reducible repeat (first | refine blk_drewN ?_ _ | refine blk_drew ?_ | refine blk_alloc ?_ _)); refine blk_far ?_ NB101_136.out _; (with_reducible repeat (first | refine blk_drewN ?_ _ | refine blk_drew ?_ | refine blk_alloc ?_ _)); exact BK101.out⟩, ⟨by (with_reducible repeat (first | refine blk_drewN ?_ _ | refine blk_drew ?_ | refine blk_alloc ?_ _)); refine blk_far ?_ NB116_136.out _; (with_reducible repeat (first | refine blk_drewN ?_ _ | refine blk_drew ?_ | refine blk_alloc ?_ _)); refine blk_far ?_ NB116_136.out _; (with_reducible repeat (first | refine blk_drewN ?_ _ | refine blk_drew ?_ | refine blk_alloc ?_ _)); refine blk_far ?_ NB116_136.out _; (with_reducible repeat (first | refine blk_drewN ?_ _ | refine blk_drew ?_ | refine blk_alloc ?_ _)); refine blk_far ?_ NB116_136.out _; (with_reducible repeat (first | refine blk_drewN ?_ _ | refine blk_drew ?_ | refine blk_alloc ?_ _)); refine blk_far ?_ NB116_136.out _; (with_reducible repeat (first | refine blk_drewN ?_ _ | refine blk_drew ?_ | refine blk_alloc ?_ _)); exact BK116.out⟩, ⟨by (with_reducible repeat (first | refine blk_drewN ?_ _ | refine blk_drew ?_ | refine blk_alloc ?_ _)); refine blk_put (cs := #[.bool t127, .bool t128, .int .i64 t129, .int .i64 t130, .int .i64 0]) ?_ 4 _ rfl; (with_reducible repeat (first | refine blk_drewN ?_ _ | refine blk_drew ?_ | refine blk_alloc ?_ _)); refine blk_put (cs := #[.bool t127, .bool t128, .int .i64 t129, .int .i64 0, .int .i64 0]) ?_ 3 _ rfl; (with_reducible repeat (first | refine blk_drewN ?_ _ | refine blk_drew ?_ | refine blk_alloc ?_ _)); refine blk_put (cs := #[.bool t127, .bool t128, .int .i64 0, .int .i64 0, .int .i64 0]) ?_ 2 _ rfl; (with_reducible repeat (first | refine blk_drewN ?_ _ | refine blk_drew ?_ | refine blk_alloc ?_ _)); refine blk_put (cs := #[.bool t127, .bool false, .int .i64 0, .int .i64 0, .int .i64 0]) ?_ 1 _ rfl; (with_reducible repeat (first | refine blk_drewN ?_ _ | refine blk_drew ?_ | refine blk_alloc ?_ _)); refine blk_put (cs := #[.bool false, .bool false, .int .i64 0, .int .i64 0, .int .i64 0]) ?_ 0 _ rfl; (with_reducible repeat (first | refine blk_drewN ?_ _ | refine blk_drew ?_ | refine blk_alloc ?_ _)); exact BK136.out⟩, ⟨by repeat (first | (with_reducible first | exact HB.out | apply below_alloc | apply pw_below_drewN | apply below_drew1 | refine below_set ?_ GE101.out | refine below_set ?_ GE116.out | refine below_set ?_ GE136.out) | exact HB.out)⟩⟩
            case round =>
             clear H'
             try clear c1
             try clear p1
             try clear q1
             try clear hx1
             try clear p2
             try clear c3
             try clear q3
             try clear c4
             try clear c5
             try clear p6
             try clear c7
             try clear p11
             try clear q11
             try clear hx11
             try clear c12
             try clear c15
             try clear c16
             try clear c16b0
             try clear c16b1
             try clear c17
             try clear c17b0
             try clear c17b1
             try clear c32
             try clear c32b0
             try clear c32b1
             try clear c33
             try clear c35
             try clear c36
             try clear c36b0
             try clear c37
             try clear c37b0
             try clear q38
             try clear c39
             try clear c40
             try clear c40b0
             try clear c41
             try clear c42
             try clear c45
             try clear c46
             try clear c49
             try clear c52
             try clear c57
             try clear c58
             try clear hcz10_0
             try clear hcz10_1
             try clear hcz10_2
             try clear hcz34_0
             try clear hcz34_1
             try clear hcz34_2
             try clear hcz34_3
             try clear hcz34_4
             try clear hcz43_0
             try clear hcz43_1
             try clear hcz43_2
             try clear hcz47_0
             try clear hcz47_1
             try clear hcz47_2
             try clear hcz53_0
             try clear hcz53_1
             try clear hcz53_2
             try clear hcz59_0
             try clear hcz59_1
             try clear hcz59_2
             try clear hcz59_3
             try clear hcz59_4
             try clear hcz8_0
             try clear hcz8_1
             try clear hcz8_2
             try clear hfz10_0
             try clear hfz10_1
             try clear hfz10_2
             try clear hfz34_0
             try clear hfz34_1
             try clear hfz34_2
             try clear hfz34_3
             try clear hfz34_4
             try clear hfz43_0
             try clear hfz43_1
             try clear hfz43_2
             try clear hfz47_0
             try clear hfz47_1
             try clear hfz47_2
             try clear hfz53_0
             try clear hfz53_1
             try clear hfz53_2
             try clear hfz59_0
             try clear hfz59_1
             try clear hfz59_2
             try clear hfz59_3
             try clear hfz59_4
             try clear hfz8_0
             try clear hfz8_1
             try clear hfz8_2
             try clear hx117_0
             try clear p117
             try clear p2
             try clear p6
             try clear q117
             obtain ⟨x17_4, rfl, HA, HK4, HO_15, BK101, BK116, BK136, HB⟩ := hrel
             cases gk with
             | zero => exact absurd HA.out (by simp [rudderlaw15_LatchUnharmed.l1])
             | succ k4 =>
              have H := HA.out
              clear HA
              simp only [rudderlaw15_LatchUnharmed.l1] at H
              by_cases c60 : x17_4 < (t132.length : Int)
              ·rw [if_pos c60] at H
               have c60b0 : decide (x17_4 < (t132.length : Int)) = true := decide_eq_true c60
               clear c60
               by_cases c61 : 0 ≤ x17_4
               ·rw [if_pos c61] at H
                have c61b0 : decide (0 ≤ x17_4) = true := decide_eq_true c61
                clear c61
                by_cases c62 : (rd t132 x17_4) = 0
                ·rw [if_pos c62] at H
                 have c62b0 : ((rd t132 x17_4) == 0) = true := beq_iff_eq.mpr c62
                 have c62b1 : ((rd t132 x17_4) != 0) = false := bne_eq_false_iff_eq.mpr c62
                 clear c62
                 as_aux_lemma =>
                  have H' := Aside0.mk H
                  clear H
                  obtain ⟨Ao63, co63, eo63⟩ := Kd.R_slice HO_15.out
                  subst eo63
                  have p137 : 0 ≤ (x17_4 : Int) := of_decide_eq_true (by first | (with_reducible assumption) | assumption)
                  have q137 : x17_4 < (t132.length : Int) := of_decide_eq_true (by first | (with_reducible assumption) | assumption)
                  obtain ⟨ad137, e137, hx137_0⟩ := Kd.at_int (Kd.R_reads' HO_15.out).2.2 x17_4 p137 q137
                  cases e137
                  replace p137 := eq_true p137
                  replace q137 := eq_true q137
                  go_wp2
                  go_roundg k4
                  case measure => have := HJ3.out; have := HJ18.out; have := HK3.out; have := HK4.out; omega
                  case rel => exact ⟨(wrap64 (x17_4 + 1)), (by first | rfl | (simp; done) | (simp [*]; done)), H', ⟨by have := HJ3.out; have := HJ18.out; have := HK3.out; have := HK4.out; omega⟩, ⟨by (with_reducible repeat (first | apply Kd.R_alloc | apply Kd.R_drewN | apply Kd.R_drew)); exact HO_15.out⟩, ⟨by (with_reducible repeat (first | refine blk_drewN ?_ _ | refine blk_drew ?_ | refine blk_alloc ?_ _)); exact BK101.out⟩, ⟨by (with_reducible repeat (first | refine blk_drewN ?_ _ | refine blk_drew ?_ | refine blk_alloc ?_ _)); exact BK116.out⟩, ⟨by (with_reducible repeat (first | refine blk_drewN ?_ _ | refine blk_drew ?_ | refine blk_alloc ?_ _)); exact BK136.out⟩, ⟨by repeat (first | (with_reducible first | exact HB.out | apply below_alloc | apply pw_below_drewN | apply below_drew1 | refine below_set ?_ GE101.out | refine below_set ?_ GE116.out | refine below_set ?_ GE136.out) | exact HB.out)⟩⟩
                ·rw [if_neg c62] at H
                 exact absurd H (by simp)
               ·rw [if_neg c61] at H
                exact absurd H (by simp)
              ·rw [if_neg c60] at H
               have c60b0 : decide (x17_4 < (t132.length : Int)) = false := decide_eq_false c60
               clear c60
               obtain ⟨y138, hy138⟩ : ∃ y_ : List Bool, y_ = (([] : List Bool)) := ⟨_, rfl⟩
               replace H : (if y138.length + l1.length < 140737488355328 then ((some (y138 ++ l1 : List Bool)).bind fun y141 => (if 0 ≤ a0_1 then (if y141.length + (a0_1 : Int).toNat < 140737488355328 then ((latch_Run.f k4 a0_0 a0_1 a0_2 (y141 ++ List.replicate (a0_1 : Int).toNat false)).bind fun bt147 => ((rudderlaw15_alive.f k4).bind fun t157 => (if t157 = true then (if t135 = 0 then (if bt147.2.2.2.2.2.2 = 0 then (if t127 = true then (none) else (if t131 = 0 then (if t129 = x11_3 then (if bt147.2.1 = true then (some true) else (if bt147.1 = true then (none) else (some (bt147.2.2.1 == 0)))) else (none)) else (none))) else (none)) else (none)) else (none)))) else (none)) else (none))) else (none)) = some r := by first | (rw [hy138]; with_reducible exact H) | (have H2_ := (Option.bind_some _ _).symm.trans H; rw [hy138]; with_reducible exact H2_) | (have H2_ := (Option.bind_some _ _).symm.trans H; with_reducible exact H2_) | with_reducible exact H | (rw [hy138]; exact H) | exact H
               have Ny138 := Aside0.mk hy138
               clear hy138
               by_cases c64 : y138.length + l1.length < 140737488355328
               ·rw [if_pos c64] at H
                have LMc64 := Aside0.mk c64
                clear c64
                obtain ⟨y141, hy141⟩ : ∃ y_ : List Bool, y_ = (y138 ++ l1) := ⟨_, rfl⟩
                replace H : (if 0 ≤ a0_1 then (if y141.length + (a0_1 : Int).toNat < 140737488355328 then ((latch_Run.f k4 a0_0 a0_1 a0_2 (y141 ++ List.replicate (a0_1 : Int).toNat false)).bind fun bt147 => ((rudderlaw15_alive.f k4).bind fun t157 => (if t157 = true then (if t135 = 0 then (if bt147.2.2.2.2.2.2 = 0 then (if t127 = true then (none) else (if t131 = 0 then (if t129 = x11_3 then (if bt147.2.1 = true then (some true) else (if bt147.1 = true then (none) else (some (bt147.2.2.1 == 0)))) else (none)) else (none))) else (none)) else (none)) else (none)))) else (none)) else (none)) = some r := by first | (rw [hy141]; with_reducible exact H) | (have H2_ := (Option.bind_some _ _).symm.trans H; rw [hy141]; with_reducible exact H2_) | (have H2_ := (Option.bind_some _ _).symm.trans H; with_reducible exact H2_) | with_reducible exact H | (rw [hy141]; exact H) | exact H
                have Ny141 := Aside0.mk hy141
                clear hy141
                by_cases c65 : 0 ≤ a0_1
                ·rw [if_pos c65] at H
                 have c65b0 := eq_true c65
                 have c65b1 : decide (0 ≤ a0_1) = true := decide_eq_true c65
                 clear c65
                 by_cases c66 : y141.length + (a0_1 : Int).toNat < 140737488355328
                 ·rw [if_pos c66] at H
                  have LMc66 := Aside0.mk c66
                  clear c66
                  obtain ⟨y144, hy144⟩ : ∃ y_ : List Bool, y_ = (y141 ++ List.replicate (a0_1 : Int).toNat false) := ⟨_, rfl⟩
                  replace H : ((latch_Run.f k4 a0_0 a0_1 a0_2 y144).bind fun bt147 => ((rudderlaw15_alive.f k4).bind fun t157 => (if t157 = true then (if t135 = 0 then (if bt147.2.2.2.2.2.2 = 0 then (if t127 = true then (none) else (if t131 = 0 then (if t129 = x11_3 then (if bt147.2.1 = true then (some true) else (if bt147.1 = true then (none) else (some (bt147.2.2.1 == 0)))) else (none)) else (none))) else (none)) else (none)) else (none)))) = some r := by first | (rw [hy144]; with_reducible exact H) | (have H2_ := (Option.bind_some _ _).symm.trans H; rw [hy144]; with_reducible exact H2_) | (have H2_ := (Option.bind_some _ _).symm.trans H; with_reducible exact H2_) | with_reducible exact H | (rw [hy144]; exact H) | exact H
                  have Ny144 := Aside0.mk hy144
                  clear hy144
                  replace H := Option.bind_eq_some_iff.mp H
                  obtain ⟨⟨t147, t148, t149, t150, t151, t152, t155⟩, A670, H⟩ := H
                  replace H : ((rudderlaw15_alive.f k4).bind fun t157 => (if t157 = true then (if t135 = 0 then (if t155 = 0 then (if t127 = true then (none) else (if t131 = 0 then (if t129 = x11_3 then (if t148 = true then (some true) else (if t147 = true then (none) else (some (t149 == 0)))) else (none)) else (none))) else (none)) else (none)) else (none))) = some r := H
                  have A67 := Aside0.mk A670
                  clear A670
                  replace H := Option.bind_eq_some_iff.mp H
                  obtain ⟨t157, A680, H⟩ := H
                  replace H : (if t157 = true then (if t135 = 0 then (if t155 = 0 then (if t127 = true then (none) else (if t131 = 0 then (if t129 = x11_3 then (if t148 = true then (some true) else (if t147 = true then (none) else (some (t149 == 0)))) else (none)) else (none))) else (none)) else (none)) else (none)) = some r := H
                  have A68 := Aside0.mk A680
                  clear A680
                  by_cases c69 : t157 = true
                  ·subst c69
                   have H1 : (if t135 = 0 then (if t155 = 0 then (if t127 = true then (none) else (if t131 = 0 then (if t129 = x11_3 then (if t148 = true then (some true) else (if t147 = true then (none) else (some (t149 == 0)))) else (none)) else (none))) else (none)) else (none)) = some r := by rw [if_pos rfl] at H; exact H
                   clear H
                   have H := H1
                   clear H1
                   by_cases c70 : t135 = 0
                   ·rw [if_pos c70] at H
                    have c70b0 : (t135 == 0) = true := beq_iff_eq.mpr c70
                    have c70b1 : (t135 != 0) = false := bne_eq_false_iff_eq.mpr c70
                    clear c70
                    by_cases c71 : t155 = 0
                    ·rw [if_pos c71] at H
                     have c71b0 : (t155 == 0) = true := beq_iff_eq.mpr c71
                     have c71b1 : (t155 != 0) = false := bne_eq_false_iff_eq.mpr c71
                     clear c71
                     by_cases c72 : t127 = true
                     ·subst c72
                      have H1 : (none) = some r := by rw [if_pos rfl] at H; exact H
                      clear H
                      have H := H1
                      clear H1
                      exact absurd H (by simp)
                     ·replace c72 := Bool.eq_false_iff.mpr c72
                      subst c72
                      have H1 : (if t131 = 0 then (if t129 = x11_3 then (if t148 = true then (some true) else (if t147 = true then (none) else (some (t149 == 0)))) else (none)) else (none)) = some r := by rw [if_neg (show ¬ (false = true) by decide)] at H; exact H
                      clear H
                      have H := H1
                      clear H1
                      by_cases c73 : t131 = 0
                      ·rw [if_pos c73] at H
                       have c73b0 : (t131 == 0) = true := beq_iff_eq.mpr c73
                       have c73b1 : (t131 != 0) = false := bne_eq_false_iff_eq.mpr c73
                       clear c73
                       by_cases c74 : t129 = x11_3
                       ·rw [if_pos c74] at H
                        have c74b0 : (t129 == x11_3) = true := beq_iff_eq.mpr c74
                        have c74b1 : (t129 != x11_3) = false := bne_eq_false_iff_eq.mpr c74
                        clear c74
                        as_aux_lemma =>
                         have HZ_ := Aside0.mk H
                         clear H
                         obtain ⟨Ao76, co76, eo76⟩ := Kd.R_slice HO_15.out
                         subst eo76
                         try go_wp2
                         have n0_ := Aside0.mk (Kd.R_drew HO_15.out)
                         have n1_ := Aside0.mk (blk_drew BK101.out)
                         have n2_ := Aside0.mk (blk_drew BK116.out)
                         have n3_ := Aside0.mk (blk_drew BK136.out)
                         have n4_ := Aside0.mk (below_drew1 HB.out)
                         clear HO_15
                         clear BK101
                         clear BK116
                         clear BK136
                         clear HB
                         have HO_15 := n0_
                         have BK101 := n1_
                         have BK116 := n2_
                         have BK136 := n3_
                         have HB := n4_
                         clear n0_ n1_ n2_ n3_ n4_
                         refine start_ (n := 16) (S := fun w' => w'.cell? ⟨gb101, 0, none⟩ = some (.int .i64 a0_0) ∧ w'.cell? ⟨gb101, 1, none⟩ = some (.int .i64 a0_1) ∧ w'.cell? ⟨gb101, 2, none⟩ = some (.int .i64 a0_2)) (ds := []) #[false, false, false, false, false, false, false, false, false, false, false, false, false, false, false, false] (by kernel_rfl) rfl rfl ⟨(blk_cell BK101.out 0).trans rfl, (blk_cell BK101.out 1).trans rfl, (blk_cell BK101.out 2).trans rfl⟩ (fun hHeld => ?_); refine with_tabW rudderlaw15_LatchUnharmed.tab22 rudderlaw15_LatchUnharmed.bits22 (fun HT_ HW_ => ?_)
                         generalize wr.drew = w77 at HO_15 BK101 BK116 BK136 HB hHeld ⊢
                         refine pure_ (i := 2) (N := some 91) (v := ?_) (a' := ?_) #[false, false, true, false, false, false, false, false, false, false, false, false, false, false, false, false] rfl rfl (any_of HT_.out (by kernel_rfl)) (fun _ _ _ h => h) (Or.inl ⟨by rfl, ?_⟩) ?_ ?_
                         rotate_left
                         ·intro w'
                          go_simp
                          with_reducible rfl
                         rotate_left
                         ·simp only [Act.put, List.setIfInBounds_toArray, List.set_cons_zero, List.set_cons_succ, i64_w, i32_w]
                          rfl
                         refine pure_ (i := 4) (N := some 93) (v := ?_) (a' := ?_) #[false, false, true, false, true, false, false, false, false, false, false, false, false, false, false, false] rfl rfl (any_of HT_.out (by kernel_rfl)) (fun _ _ _ h => h) (Or.inl ⟨by rfl, ?_⟩) ?_ ?_
                         rotate_left
                         ·intro w'
                          go_simp
                          with_reducible rfl
                         rotate_left
                         ·simp only [Act.put, List.setIfInBounds_toArray, List.set_cons_zero, List.set_cons_succ, i64_w, i32_w]
                          rfl
                         refine take_ (i := 0) (N := some 89) (v := ?_) (a' := ?_) #[true, false, true, false, true, false, false, false, false, false, false, false, false, false, false, false] rfl rfl (take_ofW HT_.out HW_.out (by kernel_rfl)) (fun _ _ _ h => h) (Or.inl ⟨by rfl, ?_⟩) hHeld ?_ ?_
                         rotate_left
                         ·rintro w' ⟨s0, s1, s2⟩
                          go_simp
                          with_reducible rfl
                         rotate_left
                         ·simp only [Act.put, List.setIfInBounds_toArray, List.set_cons_zero, List.set_cons_succ, i64_w, i32_w]
                          rfl
                         refine take_ (i := 5) (N := some 94) (v := ?_) (a' := ?_) #[true, false, true, false, true, true, false, false, false, false, false, false, false, false, false, false] rfl rfl (take_ofW HT_.out HW_.out (by kernel_rfl)) (fun _ _ _ h => h) (Or.inl ⟨by rfl, ?_⟩) hHeld ?_ ?_
                         rotate_left
                         ·rintro w' ⟨s0, s1, s2⟩
                          go_simp
                          with_reducible rfl
                         rotate_left
                         ·simp only [Act.put, List.setIfInBounds_toArray, List.set_cons_zero, List.set_cons_succ, i64_w, i32_w]
                          rfl
                         refine join_ (σ := Value × Value × Value × Value × Nat) 3 #[true, true, true, true, true, true, true, true, true, true, true, true, true, false, false, false] (fun s_ => [(90, s_.1), (92, s_.2.1), (95, s_.2.2.1), (96, .tuple #[.agg #[.bool t147, .bool t148, .int .i64 t149, .int .i64 t150, .int .i64 t151], s_.2.2.2.1, .int .i64 t155]), (18, .pointer (some ⟨s_.2.2.2.2, 0, none⟩)), (88, .tuple #[.agg #[.bool t147, .bool t148, .int .i64 t149, .int .i64 t150, .int .i64 t151], s_.2.2.2.1, .int .i64 t155]), (97, .agg #[.bool t147, .bool t148, .int .i64 t149, .int .i64 t150, .int .i64 t151]), (98, s_.2.2.2.1), (99, .int .i64 t155)]) (fun s_ w' => (w'.cell? ⟨gb101, 0, none⟩ = some (.int .i64 a0_0) ∧ w'.cell? ⟨gb101, 1, none⟩ = some (.int .i64 a0_1) ∧ w'.cell? ⟨gb101, 2, none⟩ = some (.int .i64 a0_2)) ∧ (Kd.R Kd.bool 4 w' w.heap.size (fun _ => True) s_.2.2.1 y144) ∧ (Kd.R (Kd.int .i64) 3 w' w.heap.size (fun k_ => some k_ ≠ (.slice Ao76 t132.length co76 : Value).ownBlock) s_.2.2.2.1 t152) ∧ (Kd.R (Kd.int .i64) 3 w' w.heap.size (fun k_ => some k_ ≠ (s_.2.2.2.1 : Value).ownBlock) (.slice Ao76 t132.length co76) t132) ∧ (w'.heap[gb101]? = some (.cells #[.int .i64 a0_0, .int .i64 a0_1, .int .i64 a0_2] 23 (0, 0))) ∧ (w'.heap[gb116]? = some (.cells #[.bool t107, .bool t108, .int .i64 t109, .int .i64 t110, .int .i64 t111] 28 (0, 0))) ∧ (w'.heap[gb136]? = some (.cells #[.bool false, .bool t128, .int .i64 t129, .int .i64 t130, .int .i64 t131] 28 (0, 0))) ∧ (w'.heap[s_.2.2.2.2]? = some (.cells #[.bool false, .bool false, .int .i64 0, .int .i64 0, .int .i64 0] 28 (0, 0))) ∧ (w.heap.size ≤ s_.2.2.2.2) ∧ (w.heap.size ≤ s_.2.2.2.2) ∧ (gb101 ≠ s_.2.2.2.2) ∧ (s_.2.2.2.2 ≠ gb101) ∧ (gb116 ≠ s_.2.2.2.2) ∧ (s_.2.2.2.2 ≠ gb116) ∧ (gb136 ≠ s_.2.2.2.2) ∧ (s_.2.2.2.2 ≠ gb136) ∧ (Below w.heap.size w w')) ?_ ?_
                         rotate_left
                         ·intro hJ1_3_6_7_12
                          refine join_ (σ := Value × Value × Value × Value) 4 #[true, true, true, true, true, true, true, true, true, true, true, true, false, false, false, false] (fun s_ => [(90, s_.1), (92, s_.2.1), (95, s_.2.2.1), (96, .tuple #[.agg #[.bool t147, .bool t148, .int .i64 t149, .int .i64 t150, .int .i64 t151], s_.2.2.2, .int .i64 t155]), (88, .tuple #[.agg #[.bool t147, .bool t148, .int .i64 t149, .int .i64 t150, .int .i64 t151], s_.2.2.2, .int .i64 t155]), (97, .agg #[.bool t147, .bool t148, .int .i64 t149, .int .i64 t150, .int .i64 t151]), (98, s_.2.2.2), (99, .int .i64 t155)]) (fun s_ w' => (w'.cell? ⟨gb101, 0, none⟩ = some (.int .i64 a0_0) ∧ w'.cell? ⟨gb101, 1, none⟩ = some (.int .i64 a0_1) ∧ w'.cell? ⟨gb101, 2, none⟩ = some (.int .i64 a0_2)) ∧ (Kd.R Kd.bool 4 w' w.heap.size (fun _ => True) s_.2.2.1 y144) ∧ (Kd.R (Kd.int .i64) 3 w' w.heap.size (fun k_ => some k_ ≠ (.slice Ao76 t132.length co76 : Value).ownBlock) s_.2.2.2 t152) ∧ (Kd.R (Kd.int .i64) 3 w' w.heap.size (fun k_ => some k_ ≠ (s_.2.2.2 : Value).ownBlock) (.slice Ao76 t132.length co76) t132) ∧ (w'.heap[gb101]? = some (.cells #[.int .i64 a0_0, .int .i64 a0_1, .int .i64 a0_2] 23 (0, 0))) ∧ (w'.heap[gb116]? = some (.cells #[.bool t107, .bool t108, .int .i64 t109, .int .i64 t110, .int .i64 t111] 28 (0, 0))) ∧ (w'.heap[gb136]? = some (.cells #[.bool false, .bool t128, .int .i64 t129, .int .i64 t130, .int .i64 t131] 28 (0, 0))) ∧ (Below w.heap.size w w')) ?_ ?_
                          rotate_left
                          ·intro hJ1_3_6_7
                           refine join_ (σ := Value × Value × Value × Nat) 8 #[true, true, true, true, true, true, true, false, false, false, false, false, true, false, false, false] (fun s_ => [(90, s_.1), (92, s_.2.1), (95, s_.2.2.1), (18, .pointer (some ⟨s_.2.2.2, 0, none⟩))]) (fun s_ w' => (w'.cell? ⟨gb101, 0, none⟩ = some (.int .i64 a0_0) ∧ w'.cell? ⟨gb101, 1, none⟩ = some (.int .i64 a0_1) ∧ w'.cell? ⟨gb101, 2, none⟩ = some (.int .i64 a0_2)) ∧ (Kd.R Kd.bool 4 w' w.heap.size (fun _ => True) s_.2.2.1 y144) ∧ (Kd.R (Kd.int .i64) 3 w' w.heap.size (fun _ => True) (.slice Ao76 t132.length co76) t132) ∧ (w'.heap[gb101]? = some (.cells #[.int .i64 a0_0, .int .i64 a0_1, .int .i64 a0_2] 23 (0, 0))) ∧ (w'.heap[gb116]? = some (.cells #[.bool t107, .bool t108, .int .i64 t109, .int .i64 t110, .int .i64 t111] 28 (0, 0))) ∧ (w'.heap[gb136]? = some (.cells #[.bool false, .bool t128, .int .i64 t129, .int .i64 t130, .int .i64 t131] 28 (0, 0))) ∧ (w'.heap[s_.2.2.2]? = some (.cells #[.bool false, .bool false, .int .i64 0, .int .i64 0, .int .i64 0] 28 (0, 0))) ∧ (w.heap.size ≤ s_.2.2.2) ∧ (w.heap.size ≤ s_.2.2.2) ∧ (gb101 ≠ s_.2.2.2) ∧ (s_.2.2.2 ≠ gb101) ∧ (gb116 ≠ s_.2.2.2) ∧ (s_.2.2.2 ≠ gb116) ∧ (gb136 ≠ s_.2.2.2) ∧ (s_.2.2.2 ≠ gb136) ∧ (Below w.heap.size w w')) ?_ ?_
                           rotate_left
                           ·intro hJ1_3_6_12
                            refine join_ (σ := Value × Value × Value) 9 #[true, true, true, true, true, true, true, false, false, false, false, false, false, false, false, false] (fun s_ => [(90, s_.1), (92, s_.2.1), (95, s_.2.2)]) (fun s_ w' => (w'.cell? ⟨gb101, 0, none⟩ = some (.int .i64 a0_0) ∧ w'.cell? ⟨gb101, 1, none⟩ = some (.int .i64 a0_1) ∧ w'.cell? ⟨gb101, 2, none⟩ = some (.int .i64 a0_2)) ∧ (Kd.R Kd.bool 4 w' w.heap.size (fun _ => True) s_.2.2 y144) ∧ (Kd.R (Kd.int .i64) 3 w' w.heap.size (fun _ => True) (.slice Ao76 t132.length co76) t132) ∧ (w'.heap[gb101]? = some (.cells #[.int .i64 a0_0, .int .i64 a0_1, .int .i64 a0_2] 23 (0, 0))) ∧ (w'.heap[gb116]? = some (.cells #[.bool t107, .bool t108, .int .i64 t109, .int .i64 t110, .int .i64 t111] 28 (0, 0))) ∧ (w'.heap[gb136]? = some (.cells #[.bool false, .bool t128, .int .i64 t129, .int .i64 t130, .int .i64 t131] 28 (0, 0))) ∧ (Below w.heap.size w w')) ?_ ?_
                            rotate_left
                            ·intro hJ1_3_6
                             refine join_ (σ := Value × Value × Nat) 9 #[true, true, true, true, true, true, false, false, false, false, false, false, true, false, false, false] (fun s_ => [(90, s_.1), (92, s_.2.1), (18, .pointer (some ⟨s_.2.2, 0, none⟩))]) (fun s_ w' => (w'.cell? ⟨gb101, 0, none⟩ = some (.int .i64 a0_0) ∧ w'.cell? ⟨gb101, 1, none⟩ = some (.int .i64 a0_1) ∧ w'.cell? ⟨gb101, 2, none⟩ = some (.int .i64 a0_2)) ∧ (Kd.R Kd.bool 4 w' w.heap.size (fun _ => True) s_.2.1 y141) ∧ (Kd.R (Kd.int .i64) 3 w' w.heap.size (fun _ => True) (.slice Ao76 t132.length co76) t132) ∧ (w'.heap[gb101]? = some (.cells #[.int .i64 a0_0, .int .i64 a0_1, .int .i64 a0_2] 23 (0, 0))) ∧ (w'.heap[gb116]? = some (.cells #[.bool t107, .bool t108, .int .i64 t109, .int .i64 t110, .int .i64 t111] 28 (0, 0))) ∧ (w'.heap[gb136]? = some (.cells #[.bool false, .bool t128, .int .i64 t129, .int .i64 t130, .int .i64 t131] 28 (0, 0))) ∧ (w'.heap[s_.2.2]? = some (.cells #[.bool false, .bool false, .int .i64 0, .int .i64 0, .int .i64 0] 28 (0, 0))) ∧ (w.heap.size ≤ s_.2.2) ∧ (w.heap.size ≤ s_.2.2) ∧ (gb101 ≠ s_.2.2) ∧ (s_.2.2 ≠ gb101) ∧ (gb116 ≠ s_.2.2) ∧ (s_.2.2 ≠ gb116) ∧ (gb136 ≠ s_.2.2) ∧ (s_.2.2 ≠ gb136) ∧ (Below w.heap.size w w')) ?_ ?_
                             rotate_left
                             ·intro hJ1_3_12
                              refine join_ (σ := Value × Value) 10 #[true, true, true, true, true, true, false, false, false, false, false, false, false, false, false, false] (fun s_ => [(90, s_.1), (92, s_.2)]) (fun s_ w' => (w'.cell? ⟨gb101, 0, none⟩ = some (.int .i64 a0_0) ∧ w'.cell? ⟨gb101, 1, none⟩ = some (.int .i64 a0_1) ∧ w'.cell? ⟨gb101, 2, none⟩ = some (.int .i64 a0_2)) ∧ (Kd.R Kd.bool 4 w' w.heap.size (fun _ => True) s_.2 y141) ∧ (Kd.R (Kd.int .i64) 3 w' w.heap.size (fun _ => True) (.slice Ao76 t132.length co76) t132) ∧ (w'.heap[gb101]? = some (.cells #[.int .i64 a0_0, .int .i64 a0_1, .int .i64 a0_2] 23 (0, 0))) ∧ (w'.heap[gb116]? = some (.cells #[.bool t107, .bool t108, .int .i64 t109, .int .i64 t110, .int .i64 t111] 28 (0, 0))) ∧ (w'.heap[gb136]? = some (.cells #[.bool false, .bool t128, .int .i64 t129, .int .i64 t130, .int .i64 t131] 28 (0, 0))) ∧ (Below w.heap.size w w')) ?_ ?_
                              rotate_left
                              ·intro hJ1_3
                               refine join_ (σ := Value × Nat) 10 #[true, true, true, false, true, true, false, false, false, false, false, false, true, false, false, false] (fun s_ => [(90, s_.1), (18, .pointer (some ⟨s_.2, 0, none⟩))]) (fun s_ w' => (w'.cell? ⟨gb101, 0, none⟩ = some (.int .i64 a0_0) ∧ w'.cell? ⟨gb101, 1, none⟩ = some (.int .i64 a0_1) ∧ w'.cell? ⟨gb101, 2, none⟩ = some (.int .i64 a0_2)) ∧ (Kd.R Kd.bool 4 w' w.heap.size (fun _ => True) s_.1 y138) ∧ (Kd.R (Kd.int .i64) 3 w' w.heap.size (fun _ => True) (.slice Ao76 t132.length co76) t132) ∧ (w'.heap[gb101]? = some (.cells #[.int .i64 a0_0, .int .i64 a0_1, .int .i64 a0_2] 23 (0, 0))) ∧ (w'.heap[gb116]? = some (.cells #[.bool t107, .bool t108, .int .i64 t109, .int .i64 t110, .int .i64 t111] 28 (0, 0))) ∧ (w'.heap[gb136]? = some (.cells #[.bool false, .bool t128, .int .i64 t129, .int .i64 t130, .int .i64 t131] 28 (0, 0))) ∧ (w'.heap[s_.2]? = some (.cells #[.bool false, .bool false, .int .i64 0, .int .i64 0, .int .i64 0] 28 (0, 0))) ∧ (w.heap.size ≤ s_.2) ∧ (w.heap.size ≤ s_.2) ∧ (gb101 ≠ s_.2) ∧ (s_.2 ≠ gb101) ∧ (gb116 ≠ s_.2) ∧ (s_.2 ≠ gb116) ∧ (gb136 ≠ s_.2) ∧ (s_.2 ≠ gb136) ∧ (Below w.heap.size w w')) ?_ ?_
                               rotate_left
                               ·intro hJ1_12
                                refine join_ (σ := Value) 11 #[true, true, true, false, true, true, false, false, false, false, false, false, false, false, false, false] (fun s_ => [(90, s_)]) (fun s_ w' => (w'.cell? ⟨gb101, 0, none⟩ = some (.int .i64 a0_0) ∧ w'.cell? ⟨gb101, 1, none⟩ = some (.int .i64 a0_1) ∧ w'.cell? ⟨gb101, 2, none⟩ = some (.int .i64 a0_2)) ∧ (Kd.R Kd.bool 4 w' w.heap.size (fun _ => True) s_ y138) ∧ (Kd.R (Kd.int .i64) 3 w' w.heap.size (fun _ => True) (.slice Ao76 t132.length co76) t132) ∧ (w'.heap[gb101]? = some (.cells #[.int .i64 a0_0, .int .i64 a0_1, .int .i64 a0_2] 23 (0, 0))) ∧ (w'.heap[gb116]? = some (.cells #[.bool t107, .bool t108, .int .i64 t109, .int .i64 t110, .int .i64 t111] 28 (0, 0))) ∧ (w'.heap[gb136]? = some (.cells #[.bool false, .bool t128, .int .i64 t129, .int .i64 t130, .int .i64 t131] 28 (0, 0))) ∧ (Below w.heap.size w w')) ?_ ?_
                                rotate_left
                                ·intro hJ1
                                 refine join_ (σ := Nat) 11 #[true, false, true, false, true, true, false, false, false, false, false, false, true, false, false, false] (fun s_ => [(18, .pointer (some ⟨s_, 0, none⟩))]) (fun s_ w' => (w'.cell? ⟨gb101, 0, none⟩ = some (.int .i64 a0_0) ∧ w'.cell? ⟨gb101, 1, none⟩ = some (.int .i64 a0_1) ∧ w'.cell? ⟨gb101, 2, none⟩ = some (.int .i64 a0_2)) ∧ (Kd.R (Kd.int .i64) 3 w' w.heap.size (fun _ => True) (.slice Ao76 t132.length co76) t132) ∧ (w'.heap[gb101]? = some (.cells #[.int .i64 a0_0, .int .i64 a0_1, .int .i64 a0_2] 23 (0, 0))) ∧ (w'.heap[gb116]? = some (.cells #[.bool t107, .bool t108, .int .i64 t109, .int .i64 t110, .int .i64 t111] 28 (0, 0))) ∧ (w'.heap[gb136]? = some (.cells #[.bool false, .bool t128, .int .i64 t129, .int .i64 t130, .int .i64 t131] 28 (0, 0))) ∧ (w'.heap[s_]? = some (.cells #[.bool false, .bool false, .int .i64 0, .int .i64 0, .int .i64 0] 28 (0, 0))) ∧ (w.heap.size ≤ s_) ∧ (w.heap.size ≤ s_) ∧ (gb101 ≠ s_) ∧ (s_ ≠ gb101) ∧ (gb116 ≠ s_) ∧ (s_ ≠ gb116) ∧ (gb136 ≠ s_) ∧ (s_ ≠ gb136) ∧ (Below w.heap.size w w')) ?_ ?_
                                 rotate_left
                                 ·intro hJ12
                                  refine two_ (i := 1) (j := 12) (Ni := some 90) (Nj := some 18) #[true, true, true, false, true, true, false, false, false, false, false, false, false, false, false, false] #[true, false, true, false, true, true, false, false, false, false, false, false, true, false, false, false] rfl rfl rfl rfl (two_of HT_.out (by kernel_rfl)) (by decide) (by decide) (fun K hK => ?_) (fun K hK => ?_)
                                  ·skip
                                   refine Kd.R_lit_step Kd.bool _ 4 ?hg (N := 90) ?hd (xs := ([] : List Bool)) (inner := []) (ok := fun _ => True) (okp := fun _ => True) ?hr ?hp (fun _ hk => hk) trivial (Below.refl _ _) (Nat.le_refl _) (by simp) ?_; (case hd => rfl); (case hg => rfl); (case hr => first | (go_simp; done) | (go_simp; rfl)); (case hp => exact (Reps.none _ _))
                                   intro v139 w78 ho79 hb hg_ hnew_
                                   clear hg_ hnew_
                                   (first | rw [← Ny138.out] at ho79 | (simp only [Int.reduceToNat] at ho79; rw [← Ny138.out] at ho79))
                                   have n0_ := Aside0.mk (Kd.R_below (by (with_reducible repeat (first | apply Kd.R_alloc | apply Kd.R_drewN | apply Kd.R_drew)); exact HO_15.out) hb)
                                   have n1_ := Aside0.mk (Kd.R_lower ho79 (below_size (by repeat (first | (with_reducible first | exact HB.out | apply below_alloc | apply pw_below_drewN | apply below_drew1 | refine below_set ?_ GE101.out | refine below_set ?_ GE116.out | refine below_set ?_ GE136.out) | exact HB.out))))
                                   have n2_ := Aside0.mk (blk_below (g := gb101) (o := .cells #[.int .i64 a0_0, .int .i64 a0_1, .int .i64 a0_2] 23 (0, 0)) (by (with_reducible repeat (first | refine blk_drewN ?_ _ | refine blk_drew ?_ | refine blk_alloc ?_ _)); exact BK101.out) hb)
                                   have n3_ := Aside0.mk (blk_below (g := gb116) (o := .cells #[.bool t107, .bool t108, .int .i64 t109, .int .i64 t110, .int .i64 t111] 28 (0, 0)) (by (with_reducible repeat (first | refine blk_drewN ?_ _ | refine blk_drew ?_ | refine blk_alloc ?_ _)); exact BK116.out) hb)
                                   have n4_ := Aside0.mk (blk_below (g := gb136) (o := .cells #[.bool false, .bool t128, .int .i64 t129, .int .i64 t130, .int .i64 t131] 28 (0, 0)) (by (with_reducible repeat (first | refine blk_drewN ?_ _ | refine blk_drew ?_ | refine blk_alloc ?_ _)); exact BK136.out) hb)
                                   have n5_ := Aside0.mk (below_step (by repeat (first | (with_reducible first | exact HB.out | apply below_alloc | apply pw_below_drewN | apply below_drew1 | refine below_set ?_ GE101.out | refine below_set ?_ GE116.out | refine below_set ?_ GE136.out) | exact HB.out)) hb)
                                   clear HO_15
                                   clear BK101
                                   clear BK116
                                   clear BK136
                                   clear HB
                                   have HO_15 := n0_
                                   have HO140 := n1_
                                   have BK101 := n2_
                                   have BK116 := n3_
                                   have BK136 := n4_
                                   have HB := n5_
                                   clear n0_ n1_ n2_ n3_ n4_ n5_
                                   clear hb ho79
                                   refine hK.out _ _ ⟨(blk_cell BK101.out 0).trans rfl, (blk_cell BK101.out 1).trans rfl, (blk_cell BK101.out 2).trans rfl⟩ (fun hHeld => ?_)
                                   clear hK K
                                   refine norm_ (a' := ?_) ?_ ?_
                                   rotate_left
                                   ·show Act.put _ (some 90) _ = _
                                    simp only [Act.put, List.setIfInBounds_toArray, List.set_cons_zero, List.set_cons_succ, i64_w, i32_w]
                                    rfl
                                   exact norm_ (by first | (simp only [putAll, Act.put, List.setIfInBounds_toArray, List.set_cons_zero, List.set_cons_succ]; done) | (simp only [putAll, Act.put, List.setIfInBounds_toArray, List.set_cons_zero, List.set_cons_succ]; rfl)) (hJ1 (v139) _ ⟨hHeld, (by (with_reducible repeat (first | apply Kd.R_alloc | apply Kd.R_drewN | apply Kd.R_drew)); exact HO140.out), (by (with_reducible repeat (first | apply Kd.R_alloc | apply Kd.R_drewN | apply Kd.R_drew)); exact HO_15.out), (by (with_reducible repeat (first | refine blk_drewN ?_ _ | refine blk_drew ?_ | refine blk_alloc ?_ _)); exact BK101.out), (by (with_reducible repeat (first | refine blk_drewN ?_ _ | refine blk_drew ?_ | refine blk_alloc ?_ _)); exact BK116.out), (by (with_reducible repeat (first | refine blk_drewN ?_ _ | refine blk_drew ?_ | refine blk_alloc ?_ _)); exact BK136.out), (by repeat (first | (with_reducible first | exact HB.out | apply below_alloc | apply pw_below_drewN | apply below_drew1 | refine below_set ?_ GE101.out | refine below_set ?_ GE116.out | refine below_set ?_ GE136.out) | exact HB.out))⟩)
                                  ·skip
                                   refine box_step ?hg (N := 18) ?hd (cs := #[.bool false, .bool false, .int .i64 0, .int .i64 0, .int .i64 0]) (t := 28) ?hr ?_; (case hd => rfl); (case hg => rfl); (case hr => first | (go_simp; done) | (go_simp; rfl))
                                   intro gb156 hg w78 hbox hb
                                   have n0_ := Aside0.mk (Kd.R_below (by (with_reducible repeat (first | apply Kd.R_alloc | apply Kd.R_drewN | apply Kd.R_drew)); exact HO_15.out) hb)
                                   have n1_ := Aside0.mk (blk_below (g := gb101) (o := .cells #[.int .i64 a0_0, .int .i64 a0_1, .int .i64 a0_2] 23 (0, 0)) (by (with_reducible repeat (first | refine blk_drewN ?_ _ | refine blk_drew ?_ | refine blk_alloc ?_ _)); exact BK101.out) hb)
                                   have n2_ := Aside0.mk (blk_below (g := gb116) (o := .cells #[.bool t107, .bool t108, .int .i64 t109, .int .i64 t110, .int .i64 t111] 28 (0, 0)) (by (with_reducible repeat (first | refine blk_drewN ?_ _ | refine blk_drew ?_ | refine blk_alloc ?_ _)); exact BK116.out) hb)
                                   have n3_ := Aside0.mk (blk_below (g := gb136) (o := .cells #[.bool false, .bool t128, .int .i64 t129, .int .i64 t130, .int .i64 t131] 28 (0, 0)) (by (with_reducible repeat (first | refine blk_drewN ?_ _ | refine blk_drew ?_ | refine blk_alloc ?_ _)); exact BK136.out) hb)
                                   have n4_ := Aside0.mk (below_step (by repeat (first | (with_reducible first | exact HB.out | apply below_alloc | apply pw_below_drewN | apply below_drew1 | refine below_set ?_ GE101.out | refine below_set ?_ GE116.out | refine below_set ?_ GE136.out) | exact HB.out)) hb)
                                   have n5_ := Aside0.mk (hbox)
                                   have n6_ := Aside0.mk ((by rw [hg]; exact (below_size (by repeat (first | (with_reducible first | exact HB.out | apply below_alloc | apply pw_below_drewN | apply below_drew1 | refine below_set ?_ GE101.out | refine below_set ?_ GE116.out | refine below_set ?_ GE136.out) | exact HB.out))) : w.heap.size ≤ gb156))
                                   have n7_ := Aside0.mk ((by rw [hg]; exact (below_size (by repeat (first | (with_reducible first | exact HB.out | apply below_alloc | apply pw_below_drewN | apply below_drew1 | refine below_set ?_ GE101.out | refine below_set ?_ GE116.out | refine below_set ?_ GE136.out) | exact HB.out))) : w.heap.size ≤ gb156))
                                   have n8_ := Aside0.mk ((by rw [hg]; exact Nat.ne_of_lt (blk_lt (g := gb101) (o := .cells #[.int .i64 a0_0, .int .i64 a0_1, .int .i64 a0_2] 23 (0, 0)) (by (with_reducible repeat (first | refine blk_drewN ?_ _ | refine blk_drew ?_ | refine blk_alloc ?_ _)); exact BK101.out)) : gb101 ≠ gb156))
                                   have n9_ := Aside0.mk ((by rw [hg]; exact Nat.ne_of_gt (blk_lt (g := gb101) (o := .cells #[.int .i64 a0_0, .int .i64 a0_1, .int .i64 a0_2] 23 (0, 0)) (by (with_reducible repeat (first | refine blk_drewN ?_ _ | refine blk_drew ?_ | refine blk_alloc ?_ _)); exact BK101.out)) : gb156 ≠ gb101))
                                   have n10_ := Aside0.mk ((by rw [hg]; exact Nat.ne_of_lt (blk_lt (g := gb116) (o := .cells #[.bool t107, .bool t108, .int .i64 t109, .int .i64 t110, .int .i64 t111] 28 (0, 0)) (by (with_reducible repeat (first | refine blk_drewN ?_ _ | refine blk_drew ?_ | refine blk_alloc ?_ _)); exact BK116.out)) : gb116 ≠ gb156))
                                   have n11_ := Aside0.mk ((by rw [hg]; exact Nat.ne_of_gt (blk_lt (g := gb116) (o := .cells #[.bool t107, .bool t108, .int .i64 t109, .int .i64 t110, .int .i64 t111] 28 (0, 0)) (by (with_reducible repeat (first | refine blk_drewN ?_ _ | refine blk_drew ?_ | refine blk_alloc ?_ _)); exact BK116.out)) : gb156 ≠ gb116))
                                   have n12_ := Aside0.mk ((by rw [hg]; exact Nat.ne_of_lt (blk_lt (g := gb136) (o := .cells #[.bool false, .bool t128, .int .i64 t129, .int .i64 t130, .int .i64 t131] 28 (0, 0)) (by (with_reducible repeat (first | refine blk_drewN ?_ _ | refine blk_drew ?_ | refine blk_alloc ?_ _)); exact BK136.out)) : gb136 ≠ gb156))
                                   have n13_ := Aside0.mk ((by rw [hg]; exact Nat.ne_of_gt (blk_lt (g := gb136) (o := .cells #[.bool false, .bool t128, .int .i64 t129, .int .i64 t130, .int .i64 t131] 28 (0, 0)) (by (with_reducible repeat (first | refine blk_drewN ?_ _ | refine blk_drew ?_ | refine blk_alloc ?_ _)); exact BK136.out)) : gb156 ≠ gb136))
                                   clear HO_15
                                   clear BK101
                                   clear BK116
                                   clear BK136
                                   clear HB
                                   have HO_15 := n0_
                                   have BK101 := n1_
                                   have BK116 := n2_
                                   have BK136 := n3_
                                   have HB := n4_
                                   have BK156 := n5_
                                   have GW156 := n6_
                                   have GE156 := n7_
                                   have NB101_156 := n8_
                                   have NB156_101 := n9_
                                   have NB116_156 := n10_
                                   have NB156_116 := n11_
                                   have NB136_156 := n12_
                                   have NB156_136 := n13_
                                   clear n0_ n1_ n2_ n3_ n4_ n5_ n6_ n7_ n8_ n9_ n10_ n11_ n12_ n13_
                                   clear hb hbox hg
                                   refine hK.out _ _ ⟨(blk_cell BK101.out 0).trans rfl, (blk_cell BK101.out 1).trans rfl, (blk_cell BK101.out 2).trans rfl⟩ (fun hHeld => ?_)
                                   clear hK K
                                   refine norm_ (a' := ?_) ?_ ?_
                                   rotate_left
                                   ·show Act.put _ (some 18) _ = _
                                    simp only [Act.put, List.setIfInBounds_toArray, List.set_cons_zero, List.set_cons_succ, i64_w, i32_w]
                                    rfl
                                   exact norm_ (by first | (simp only [putAll, Act.put, List.setIfInBounds_toArray, List.set_cons_zero, List.set_cons_succ]; done) | (simp only [putAll, Act.put, List.setIfInBounds_toArray, List.set_cons_zero, List.set_cons_succ]; rfl)) (hJ12 (gb156) _ ⟨hHeld, (by (with_reducible repeat (first | apply Kd.R_alloc | apply Kd.R_drewN | apply Kd.R_drew)); exact HO_15.out), (by (with_reducible repeat (first | refine blk_drewN ?_ _ | refine blk_drew ?_ | refine blk_alloc ?_ _)); exact BK101.out), (by (with_reducible repeat (first | refine blk_drewN ?_ _ | refine blk_drew ?_ | refine blk_alloc ?_ _)); exact BK116.out), (by (with_reducible repeat (first | refine blk_drewN ?_ _ | refine blk_drew ?_ | refine blk_alloc ?_ _)); exact BK136.out), (by (with_reducible repeat (first | refine blk_drewN ?_ _ | refine blk_drew ?_ | refine blk_alloc ?_ _)); exact BK156.out), GW156.out, GE156.out, NB101_156.out, NB156_101.out, NB116_156.out, NB156_116.out, NB136_156.out, NB156_136.out, (by repeat (first | (with_reducible first | exact HB.out | apply below_alloc | apply pw_below_drewN | apply below_drew1 | refine below_set ?_ GE101.out | refine below_set ?_ GE116.out | refine below_set ?_ GE136.out | refine below_set ?_ GE156.out) | exact HB.out))⟩)
                                 ·skip
                                  rintro gb156 w79 ⟨hS_, h0_, h1_, h2_, h3_, h4_, h5_, h6_, h7_, h8_, h9_, h10_, h11_, h12_, h13_⟩
                                  have n0_ : Aside0 (Kd.R (Kd.int .i64) 3 w79 w.heap.size (fun _ => True) (.slice Ao76 t132.length co76) t132) := ⟨h0_⟩
                                  have n1_ : Aside0 (w79.heap[gb101]? = some (.cells #[.int .i64 a0_0, .int .i64 a0_1, .int .i64 a0_2] 23 (0, 0))) := ⟨h1_⟩
                                  have n2_ : Aside0 (w79.heap[gb116]? = some (.cells #[.bool t107, .bool t108, .int .i64 t109, .int .i64 t110, .int .i64 t111] 28 (0, 0))) := ⟨h2_⟩
                                  have n3_ : Aside0 (w79.heap[gb136]? = some (.cells #[.bool false, .bool t128, .int .i64 t129, .int .i64 t130, .int .i64 t131] 28 (0, 0))) := ⟨h3_⟩
                                  have n4_ : Aside0 (w79.heap[gb156]? = some (.cells #[.bool false, .bool false, .int .i64 0, .int .i64 0, .int .i64 0] 28 (0, 0))) := ⟨h4_⟩
                                  have n5_ : Aside0 (w.heap.size ≤ gb156) := ⟨h5_⟩
                                  have n6_ : Aside0 (w.heap.size ≤ gb156) := ⟨h6_⟩
                                  have n7_ : Aside0 (gb101 ≠ gb156) := ⟨h7_⟩
                                  have n8_ : Aside0 (gb156 ≠ gb101) := ⟨h8_⟩
                                  have n9_ : Aside0 (gb116 ≠ gb156) := ⟨h9_⟩
                                  have n10_ : Aside0 (gb156 ≠ gb116) := ⟨h10_⟩
                                  have n11_ : Aside0 (gb136 ≠ gb156) := ⟨h11_⟩
                                  have n12_ : Aside0 (gb156 ≠ gb136) := ⟨h12_⟩
                                  have n13_ : Aside0 (Below w.heap.size w w79) := ⟨h13_⟩
                                  clear HO_15
                                  clear BK101
                                  clear BK116
                                  clear BK136
                                  clear HB
                                  clear h0_ h1_ h2_ h3_ h4_ h5_ h6_ h7_ h8_ h9_ h10_ h11_ h12_ h13_
                                  have HO_15 := n0_
                                  have BK101 := n1_
                                  have BK116 := n2_
                                  have BK136 := n3_
                                  have BK156 := n4_
                                  have GW156 := n5_
                                  have GE156 := n6_
                                  have NB101_156 := n7_
                                  have NB156_101 := n8_
                                  have NB116_156 := n9_
                                  have NB156_116 := n10_
                                  have NB136_156 := n11_
                                  have NB156_136 := n12_
                                  have HB := n13_
                                  clear n0_ n1_ n2_ n3_ n4_ n5_ n6_ n7_ n8_ n9_ n10_ n11_ n12_ n13_
                                  have hHeld : w79.cell? ⟨gb101, 0, none⟩ = some (.int .i64 a0_0) ∧ w79.cell? ⟨gb101, 1, none⟩ = some (.int .i64 a0_1) ∧ w79.cell? ⟨gb101, 2, none⟩ = some (.int .i64 a0_2) := hS_
                                  refine norm_ (a' := ?_) ?_ ?_
                                  rotate_left
                                  ·simp only [putAll, Act.put, List.setIfInBounds_toArray, List.set_cons_zero, List.set_cons_succ]
                                   rfl
                                  refine one_ (i := 1) (N := some 90) #[true, true, true, false, true, true, false, false, false, false, false, false, true, false, false, false] rfl rfl (one_of HT_.out (by kernel_rfl)) (by decide) (fun K hK => ?_)
                                  refine Kd.R_lit_step Kd.bool _ 4 ?hg (N := 90) ?hd (xs := ([] : List Bool)) (inner := []) (ok := fun _ => True) (okp := fun _ => True) ?hr ?hp (fun _ hk => hk) trivial (Below.refl _ _) (Nat.le_refl _) (by simp) ?_; (case hd => rfl); (case hg => rfl); (case hr => first | (go_simp; done) | (go_simp; rfl)); (case hp => exact (Reps.none _ _))
                                  intro v139 w80 ho81 hb hg_ hnew_
                                  clear hg_ hnew_
                                  (first | rw [← Ny138.out] at ho81 | (simp only [Int.reduceToNat] at ho81; rw [← Ny138.out] at ho81))
                                  have n0_ := Aside0.mk (Kd.R_below (by (with_reducible repeat (first | apply Kd.R_alloc | apply Kd.R_drewN | apply Kd.R_drew)); exact HO_15.out) hb)
                                  have n1_ := Aside0.mk (Kd.R_lower ho81 (below_size (by repeat (first | (with_reducible first | exact HB.out | apply below_alloc | apply pw_below_drewN | apply below_drew1 | refine below_set ?_ GE101.out | refine below_set ?_ GE116.out | refine below_set ?_ GE136.out | refine below_set ?_ GE156.out) | exact HB.out))))
                                  have n2_ := Aside0.mk (blk_below (g := gb101) (o := .cells #[.int .i64 a0_0, .int .i64 a0_1, .int .i64 a0_2] 23 (0, 0)) (by (with_reducible repeat (first | refine blk_drewN ?_ _ | refine blk_drew ?_ | refine blk_alloc ?_ _)); exact BK101.out) hb)
                                  have n3_ := Aside0.mk (blk_below (g := gb116) (o := .cells #[.bool t107, .bool t108, .int .i64 t109, .int .i64 t110, .int .i64 t111] 28 (0, 0)) (by (with_reducible repeat (first | refine blk_drewN ?_ _ | refine blk_drew ?_ | refine blk_alloc ?_ _)); exact BK116.out) hb)
                                  have n4_ := Aside0.mk (blk_below (g := gb136) (o := .cells #[.bool false, .bool t128, .int .i64 t129, .int .i64 t130, .int .i64 t131] 28 (0, 0)) (by (with_reducible repeat (first | refine blk_drewN ?_ _ | refine blk_drew ?_ | refine blk_alloc ?_ _)); exact BK136.out) hb)
                                  have n5_ := Aside0.mk (blk_below (g := gb156) (o := .cells #[.bool false, .bool false, .int .i64 0, .int .i64 0, .int .i64 0] 28 (0, 0)) (by (with_reducible repeat (first | refine blk_drewN ?_ _ | refine blk_drew ?_ | refine blk_alloc ?_ _)); exact BK156.out) hb)
                                  have n6_ := Aside0.mk (below_step (by repeat (first | (with_reducible first | exact HB.out | apply below_alloc | apply pw_below_drewN | apply below_drew1 | refine below_set ?_ GE101.out | refine below_set ?_ GE116.out | refine below_set ?_ GE136.out | refine below_set ?_ GE156.out) | exact HB.out)) hb)
                                  clear HO_15
                                  clear BK101
                                  clear BK116
                                  clear BK136
                                  clear BK156
                                  clear HB
                                  have HO_15 := n0_
                                  have HO140 := n1_
                                  have BK101 := n2_
                                  have BK116 := n3_
                                  have BK136 := n4_
                                  have BK156 := n5_
                                  have HB := n6_
                                  clear n0_ n1_ n2_ n3_ n4_ n5_ n6_
                                  clear hb ho81
                                  refine hK.out _ _ ⟨(blk_cell BK101.out 0).trans rfl, (blk_cell BK101.out 1).trans rfl, (blk_cell BK101.out 2).trans rfl⟩ (fun hHeld => ?_)
                                  clear hK K
                                  refine norm_ (a' := ?_) ?_ ?_
                                  rotate_left
                                  ·show Act.put _ (some 90) _ = _
                                   simp only [Act.put, List.setIfInBounds_toArray, List.set_cons_zero, List.set_cons_succ, i64_w, i32_w]
                                   rfl
                                  exact norm_ (by first | (simp only [putAll, Act.put, List.setIfInBounds_toArray, List.set_cons_zero, List.set_cons_succ]; done) | (simp only [putAll, Act.put, List.setIfInBounds_toArray, List.set_cons_zero, List.set_cons_succ]; rfl)) (hJ1_12 (v139, gb156) _ ⟨hHeld, (by (with_reducible repeat (first | apply Kd.R_alloc | apply Kd.R_drewN | apply Kd.R_drew)); exact HO140.out), (by (with_reducible repeat (first | apply Kd.R_alloc | apply Kd.R_drewN | apply Kd.R_drew)); exact HO_15.out), (by (with_reducible repeat (first | refine blk_drewN ?_ _ | refine blk_drew ?_ | refine blk_alloc ?_ _)); exact BK101.out), (by (with_reducible repeat (first | refine blk_drewN ?_ _ | refine blk_drew ?_ | refine blk_alloc ?_ _)); exact BK116.out), (by (with_reducible repeat (first | refine blk_drewN ?_ _ | refine blk_drew ?_ | refine blk_alloc ?_ _)); exact BK136.out), (by (with_reducible repeat (first | refine blk_drewN ?_ _ | refine blk_drew ?_ | refine blk_alloc ?_ _)); exact BK156.out), GW156.out, GE156.out, NB101_156.out, NB156_101.out, NB116_156.out, NB156_116.out, NB136_156.out, NB156_136.out, (by repeat (first | (with_reducible first | exact HB.out | apply below_alloc | apply pw_below_drewN | apply below_drew1 | refine below_set ?_ GE101.out | refine below_set ?_ GE116.out | refine below_set ?_ GE136.out | refine below_set ?_ GE156.out) | exact HB.out))⟩)
                                ·skip
                                 rintro v139 w80 ⟨hS_, h0_, h1_, h2_, h3_, h4_, h5_⟩
                                 have n0_ : Aside0 (Kd.R Kd.bool 4 w80 w.heap.size (fun _ => True) v139 y138) := ⟨h0_⟩
                                 have n1_ : Aside0 (Kd.R (Kd.int .i64) 3 w80 w.heap.size (fun _ => True) (.slice Ao76 t132.length co76) t132) := ⟨h1_⟩
                                 have n2_ : Aside0 (w80.heap[gb101]? = some (.cells #[.int .i64 a0_0, .int .i64 a0_1, .int .i64 a0_2] 23 (0, 0))) := ⟨h2_⟩
                                 have n3_ : Aside0 (w80.heap[gb116]? = some (.cells #[.bool t107, .bool t108, .int .i64 t109, .int .i64 t110, .int .i64 t111] 28 (0, 0))) := ⟨h3_⟩
                                 have n4_ : Aside0 (w80.heap[gb136]? = some (.cells #[.bool false, .bool t128, .int .i64 t129, .int .i64 t130, .int .i64 t131] 28 (0, 0))) := ⟨h4_⟩
                                 have n5_ : Aside0 (Below w.heap.size w w80) := ⟨h5_⟩
                                 clear HO_15
                                 clear BK101
                                 clear BK116
                                 clear BK136
                                 clear HB
                                 clear h0_ h1_ h2_ h3_ h4_ h5_
                                 have HO140 := n0_
                                 have HO_15 := n1_
                                 have BK101 := n2_
                                 have BK116 := n3_
                                 have BK136 := n4_
                                 have HB := n5_
                                 clear n0_ n1_ n2_ n3_ n4_ n5_
                                 have hHeld : w80.cell? ⟨gb101, 0, none⟩ = some (.int .i64 a0_0) ∧ w80.cell? ⟨gb101, 1, none⟩ = some (.int .i64 a0_1) ∧ w80.cell? ⟨gb101, 2, none⟩ = some (.int .i64 a0_2) := hS_
                                 refine norm_ (a' := ?_) ?_ ?_
                                 rotate_left
                                 ·simp only [putAll, Act.put, List.setIfInBounds_toArray, List.set_cons_zero, List.set_cons_succ]
                                  rfl
                                 refine two_ (i := 3) (j := 12) (Ni := some 92) (Nj := some 18) #[true, true, true, true, true, true, false, false, false, false, false, false, false, false, false, false] #[true, true, true, false, true, true, false, false, false, false, false, false, true, false, false, false] rfl rfl rfl rfl (two_of HT_.out (by kernel_rfl)) (by decide) (by decide) (fun K hK => ?_) (fun K hK => ?_)
                                 ·skip
                                  refine Kd.R_append_rows_step Kd.bool (w0 := w) w.heap.size (by rfl) (.tmp 90) (.tmp 91) 24 4 (.bool false) 1 rfl Try.underlying24 info4 rfl (by decide) (by omega) v139 y138 l1 _ _ _ (fun _ => True) (fun _ => False) rfl rfl ?aO ?aR (fun _ _ h => h) (fun _ h => h.elim) ?aF ?aB ?aS ?aL ?_
                                  (case aR => repeat (first | exact (Kd.C_below HR1.out HB.out) | (with_reducible refine Kd.C_alloc ?_ _) | (with_reducible refine Kd.C_drewN ?_ _) | (with_reducible refine Kd.C_drew ?_)))
                                  (case aB => exact (by repeat (first | (with_reducible first | exact HB.out | apply below_alloc | apply pw_below_drewN | apply below_drew1 | refine below_set ?_ GE101.out | refine below_set ?_ GE116.out | refine below_set ?_ GE136.out) | exact HB.out)))
                                  (case aF => exact (fun _ _ => trivial))
                                  (case aO => exact (by (with_reducible repeat (first | apply Kd.R_alloc | apply Kd.R_drewN | apply Kd.R_drew)); exact HO140.out))
                                  (case aS => exact (below_size (by repeat (first | (with_reducible first | exact HB.out | apply below_alloc | apply pw_below_drewN | apply below_drew1 | refine below_set ?_ GE101.out | refine below_set ?_ GE116.out | refine below_set ?_ GE136.out) | exact HB.out))))
                                  (case aL => have := LMc64.out; omega)
                                  intro v142 w81 ho hb hg hat
                                  rw [← Ny141.out] at ho
                                  have n0_ := Aside0.mk (Kd.R_over' (by (with_reducible repeat (first | apply Kd.R_alloc | apply Kd.R_drewN | apply Kd.R_drew)); exact HO_15.out) (Kd.R_typed (by (with_reducible repeat (first | apply Kd.R_alloc | apply Kd.R_drewN | apply Kd.R_drew)); exact HO140.out)) (by decide) hg)
                                  have n1_ := Aside0.mk (blk_grown (g := gb101) (o := .cells #[.int .i64 a0_0, .int .i64 a0_1, .int .i64 a0_2] 23 (0, 0)) (by (with_reducible repeat (first | refine blk_drewN ?_ _ | refine blk_drew ?_ | refine blk_alloc ?_ _)); exact BK101.out) hg (Kd.R_ne HO140.out BK101.out (by decide)))
                                  have n2_ := Aside0.mk (blk_grown (g := gb116) (o := .cells #[.bool t107, .bool t108, .int .i64 t109, .int .i64 t110, .int .i64 t111] 28 (0, 0)) (by (with_reducible repeat (first | refine blk_drewN ?_ _ | refine blk_drew ?_ | refine blk_alloc ?_ _)); exact BK116.out) hg (Kd.R_ne HO140.out BK116.out (by decide)))
                                  have n3_ := Aside0.mk (blk_grown (g := gb136) (o := .cells #[.bool false, .bool t128, .int .i64 t129, .int .i64 t130, .int .i64 t131] 28 (0, 0)) (by (with_reducible repeat (first | refine blk_drewN ?_ _ | refine blk_drew ?_ | refine blk_alloc ?_ _)); exact BK136.out) hg (Kd.R_ne HO140.out BK136.out (by decide)))
                                  have n4_ := Aside0.mk (hb)
                                  have n5_ := Aside0.mk (ho)
                                  clear HO_15
                                  clear BK101
                                  clear BK116
                                  clear BK136
                                  clear HB
                                  clear HO140
                                  have HO_15 := n0_
                                  have BK101 := n1_
                                  have BK116 := n2_
                                  have BK136 := n3_
                                  have HB := n4_
                                  have HO143 := n5_
                                  clear n0_ n1_ n2_ n3_ n4_ n5_
                                  clear ho hb hg hat
                                  refine hK.out _ _ ⟨(blk_cell BK101.out 0).trans rfl, (blk_cell BK101.out 1).trans rfl, (blk_cell BK101.out 2).trans rfl⟩ (fun hHeld => ?_)
                                  clear hK K
                                  refine norm_ (a' := ?_) ?_ ?_
                                  rotate_left
                                  ·show Act.put _ (some 92) _ = _
                                   simp only [Act.put, List.setIfInBounds_toArray, List.set_cons_zero, List.set_cons_succ, i64_w, i32_w]
                                   rfl
                                  exact norm_ (by first | (simp only [putAll, Act.put, List.setIfInBounds_toArray, List.set_cons_zero, List.set_cons_succ]; done) | (simp only [putAll, Act.put, List.setIfInBounds_toArray, List.set_cons_zero, List.set_cons_succ]; rfl)) (hJ1_3 (v139, v142) _ ⟨hHeld, (by (with_reducible repeat (first | apply Kd.R_alloc | apply Kd.R_drewN | apply Kd.R_drew)); exact HO143.out), (by (with_reducible repeat (first | apply Kd.R_alloc | apply Kd.R_drewN | apply Kd.R_drew)); exact HO_15.out), (by (with_reducible repeat (first | refine blk_drewN ?_ _ | refine blk_drew ?_ | refine blk_alloc ?_ _)); exact BK101.out), (by (with_reducible repeat (first | refine blk_drewN ?_ _ | refine blk_drew ?_ | refine blk_alloc ?_ _)); exact BK116.out), (by (with_reducible repeat (first | refine blk_drewN ?_ _ | refine blk_drew ?_ | refine blk_alloc ?_ _)); exact BK136.out), (by repeat (first | (with_reducible first | exact HB.out | apply below_alloc | apply pw_below_drewN | apply below_drew1 | refine below_set ?_ GE101.out | refine below_set ?_ GE116.out | refine below_set ?_ GE136.out) | exact HB.out))⟩)
                                 ·skip
                                  refine box_step ?hg (N := 18) ?hd (cs := #[.bool false, .bool false, .int .i64 0, .int .i64 0, .int .i64 0]) (t := 28) ?hr ?_; (case hd => rfl); (case hg => rfl); (case hr => first | (go_simp; done) | (go_simp; rfl))
                                  intro gb156 hg w81 hbox hb
                                  have n0_ := Aside0.mk (Kd.R_below (by (with_reducible repeat (first | apply Kd.R_alloc | apply Kd.R_drewN | apply Kd.R_drew)); exact HO_15.out) hb)
                                  have n1_ := Aside0.mk (Kd.R_below (by (with_reducible repeat (first | apply Kd.R_alloc | apply Kd.R_drewN | apply Kd.R_drew)); exact HO140.out) hb)
                                  have n2_ := Aside0.mk (blk_below (g := gb101) (o := .cells #[.int .i64 a0_0, .int .i64 a0_1, .int .i64 a0_2] 23 (0, 0)) (by (with_reducible repeat (first | refine blk_drewN ?_ _ | refine blk_drew ?_ | refine blk_alloc ?_ _)); exact BK101.out) hb)
                                  have n3_ := Aside0.mk (blk_below (g := gb116) (o := .cells #[.bool t107, .bool t108, .int .i64 t109, .int .i64 t110, .int .i64 t111] 28 (0, 0)) (by (with_reducible repeat (first | refine blk_drewN ?_ _ | refine blk_drew ?_ | refine blk_alloc ?_ _)); exact BK116.out) hb)
                                  have n4_ := Aside0.mk (blk_below (g := gb136) (o := .cells #[.bool false, .bool t128, .int .i64 t129, .int .i64 t130, .int .i64 t131] 28 (0, 0)) (by (with_reducible repeat (first | refine blk_drewN ?_ _ | refine blk_drew ?_ | refine blk_alloc ?_ _)); exact BK136.out) hb)
                                  have n5_ := Aside0.mk (below_step (by repeat (first | (with_reducible first | exact HB.out | apply below_alloc | apply pw_below_drewN | apply below_drew1 | refine below_set ?_ GE101.out | refine below_set ?_ GE116.out | refine below_set ?_ GE136.out) | exact HB.out)) hb)
                                  have n6_ := Aside0.mk (hbox)
                                  have n7_ := Aside0.mk ((by rw [hg]; exact (below_size (by repeat (first | (with_reducible first | exact HB.out | apply below_alloc | apply pw_below_drewN | apply below_drew1 | refine below_set ?_ GE101.out | refine below_set ?_ GE116.out | refine below_set ?_ GE136.out) | exact HB.out))) : w.heap.size ≤ gb156))
                                  have n8_ := Aside0.mk ((by rw [hg]; exact (below_size (by repeat (first | (with_reducible first | exact HB.out | apply below_alloc | apply pw_below_drewN | apply below_drew1 | refine below_set ?_ GE101.out | refine below_set ?_ GE116.out | refine below_set ?_ GE136.out) | exact HB.out))) : w.heap.size ≤ gb156))
                                  have n9_ := Aside0.mk ((by rw [hg]; exact Nat.ne_of_lt (blk_lt (g := gb101) (o := .cells #[.int .i64 a0_0, .int .i64 a0_1, .int .i64 a0_2] 23 (0, 0)) (by (with_reducible repeat (first | refine blk_drewN ?_ _ | refine blk_drew ?_ | refine blk_alloc ?_ _)); exact BK101.out)) : gb101 ≠ gb156))
                                  have n10_ := Aside0.mk ((by rw [hg]; exact Nat.ne_of_gt (blk_lt (g := gb101) (o := .cells #[.int .i64 a0_0, .int .i64 a0_1, .int .i64 a0_2] 23 (0, 0)) (by (with_reducible repeat (first | refine blk_drewN ?_ _ | refine blk_drew ?_ | refine blk_alloc ?_ _)); exact BK101.out)) : gb156 ≠ gb101))
                                  have n11_ := Aside0.mk ((by rw [hg]; exact Nat.ne_of_lt (blk_lt (g := gb116) (o := .cells #[.bool t107, .bool t108, .int .i64 t109, .int .i64 t110, .int .i64 t111] 28 (0, 0)) (by (with_reducible repeat (first | refine blk_drewN ?_ _ | refine blk_drew ?_ | refine blk_alloc ?_ _)); exact BK116.out)) : gb116 ≠ gb156))
                                  have n12_ := Aside0.mk ((by rw [hg]; exact Nat.ne_of_gt (blk_lt (g := gb116) (o := .cells #[.bool t107, .bool t108, .int .i64 t109, .int .i64 t110, .int .i64 t111] 28 (0, 0)) (by (with_reducible repeat (first | refine blk_drewN ?_ _ | refine blk_drew ?_ | refine blk_alloc ?_ _)); exact BK116.out)) : gb156 ≠ gb116))
                                  have n13_ := Aside0.mk ((by rw [hg]; exact Nat.ne_of_lt (blk_lt (g := gb136) (o := .cells #[.bool false, .bool t128, .int .i64 t129, .int .i64 t130, .int .i64 t131] 28 (0, 0)) (by (with_reducible repeat (first | refine blk_drewN ?_ _ | refine blk_drew ?_ | refine blk_alloc ?_ _)); exact BK136.out)) : gb136 ≠ gb156))
                                  have n14_ := Aside0.mk ((by rw [hg]; exact Nat.ne_of_gt (blk_lt (g := gb136) (o := .cells #[.bool false, .bool t128, .int .i64 t129, .int .i64 t130, .int .i64 t131] 28 (0, 0)) (by (with_reducible repeat (first | refine blk_drewN ?_ _ | refine blk_drew ?_ | refine blk_alloc ?_ _)); exact BK136.out)) : gb156 ≠ gb136))
                                  clear HO_15
                                  clear HO140
                                  clear BK101
                                  clear BK116
                                  clear BK136
                                  clear HB
                                  have HO_15 := n0_
                                  have HO140 := n1_
                                  have BK101 := n2_
                                  have BK116 := n3_
                                  have BK136 := n4_
                                  have HB := n5_
                                  have BK156 := n6_
                                  have GW156 := n7_
                                  have GE156 := n8_
                                  have NB101_156 := n9_
                                  have NB156_101 := n10_
                                  have NB116_156 := n11_
                                  have NB156_116 := n12_
                                  have NB136_156 := n13_
                                  have NB156_136 := n14_
                                  clear n0_ n1_ n2_ n3_ n4_ n5_ n6_ n7_ n8_ n9_ n10_ n11_ n12_ n13_ n14_
                                  clear hb hbox hg
                                  refine hK.out _ _ ⟨(blk_cell BK101.out 0).trans rfl, (blk_cell BK101.out 1).trans rfl, (blk_cell BK101.out 2).trans rfl⟩ (fun hHeld => ?_)
                                  clear hK K
                                  refine norm_ (a' := ?_) ?_ ?_
                                  rotate_left
                                  ·show Act.put _ (some 18) _ = _
                                   simp only [Act.put, List.setIfInBounds_toArray, List.set_cons_zero, List.set_cons_succ, i64_w, i32_w]
                                   rfl
                                  exact norm_ (by first | (simp only [putAll, Act.put, List.setIfInBounds_toArray, List.set_cons_zero, List.set_cons_succ]; done) | (simp only [putAll, Act.put, List.setIfInBounds_toArray, List.set_cons_zero, List.set_cons_succ]; rfl)) (hJ1_12 (v139, gb156) _ ⟨hHeld, (by (with_reducible repeat (first | apply Kd.R_alloc | apply Kd.R_drewN | apply Kd.R_drew)); exact HO140.out), (by (with_reducible repeat (first | apply Kd.R_alloc | apply Kd.R_drewN | apply Kd.R_drew)); exact HO_15.out), (by (with_reducible repeat (first | refine blk_drewN ?_ _ | refine blk_drew ?_ | refine blk_alloc ?_ _)); exact BK101.out), (by (with_reducible repeat (first | refine blk_drewN ?_ _ | refine blk_drew ?_ | refine blk_alloc ?_ _)); exact BK116.out), (by (with_reducible repeat (first | refine blk_drewN ?_ _ | refine blk_drew ?_ | refine blk_alloc ?_ _)); exact BK136.out), (by (with_reducible repeat (first | refine blk_drewN ?_ _ | refine blk_drew ?_ | refine blk_alloc ?_ _)); exact BK156.out), GW156.out, GE156.out, NB101_156.out, NB156_101.out, NB116_156.out, NB156_116.out, NB136_156.out, NB156_136.out, (by repeat (first | (with_reducible first | exact HB.out | apply below_alloc | apply pw_below_drewN | apply below_drew1 | refine below_set ?_ GE101.out | refine below_set ?_ GE116.out | refine below_set ?_ GE136.out | refine below_set ?_ GE156.out) | exact HB.out))⟩)
                               ·skip
                                rintro ⟨v139, gb156⟩ w81 ⟨hS_, h0_, h1_, h2_, h3_, h4_, h5_, h6_, h7_, h8_, h9_, h10_, h11_, h12_, h13_, h14_⟩
                                have n0_ : Aside0 (Kd.R Kd.bool 4 w81 w.heap.size (fun _ => True) v139 y138) := ⟨h0_⟩
                                have n1_ : Aside0 (Kd.R (Kd.int .i64) 3 w81 w.heap.size (fun _ => True) (.slice Ao76 t132.length co76) t132) := ⟨h1_⟩
                                have n2_ : Aside0 (w81.heap[gb101]? = some (.cells #[.int .i64 a0_0, .int .i64 a0_1, .int .i64 a0_2] 23 (0, 0))) := ⟨h2_⟩
                                have n3_ : Aside0 (w81.heap[gb116]? = some (.cells #[.bool t107, .bool t108, .int .i64 t109, .int .i64 t110, .int .i64 t111] 28 (0, 0))) := ⟨h3_⟩
                                have n4_ : Aside0 (w81.heap[gb136]? = some (.cells #[.bool false, .bool t128, .int .i64 t129, .int .i64 t130, .int .i64 t131] 28 (0, 0))) := ⟨h4_⟩
                                have n5_ : Aside0 (w81.heap[gb156]? = some (.cells #[.bool false, .bool false, .int .i64 0, .int .i64 0, .int .i64 0] 28 (0, 0))) := ⟨h5_⟩
                                have n6_ : Aside0 (w.heap.size ≤ gb156) := ⟨h6_⟩
                                have n7_ : Aside0 (w.heap.size ≤ gb156) := ⟨h7_⟩
                                have n8_ : Aside0 (gb101 ≠ gb156) := ⟨h8_⟩
                                have n9_ : Aside0 (gb156 ≠ gb101) := ⟨h9_⟩
                                have n10_ : Aside0 (gb116 ≠ gb156) := ⟨h10_⟩
                                have n11_ : Aside0 (gb156 ≠ gb116) := ⟨h11_⟩
                                have n12_ : Aside0 (gb136 ≠ gb156) := ⟨h12_⟩
                                have n13_ : Aside0 (gb156 ≠ gb136) := ⟨h13_⟩
                                have n14_ : Aside0 (Below w.heap.size w w81) := ⟨h14_⟩
                                clear HO_15
                                clear BK101
                                clear BK116
                                clear BK136
                                clear HB
                                clear h0_ h1_ h2_ h3_ h4_ h5_ h6_ h7_ h8_ h9_ h10_ h11_ h12_ h13_ h14_
                                have HO140 := n0_
                                have HO_15 := n1_
                                have BK101 := n2_
                                have BK116 := n3_
                                have BK136 := n4_
                                have BK156 := n5_
                                have GW156 := n6_
                                have GE156 := n7_
                                have NB101_156 := n8_
                                have NB156_101 := n9_
                                have NB116_156 := n10_
                                have NB156_116 := n11_
                                have NB136_156 := n12_
                                have NB156_136 := n13_
                                have HB := n14_
                                clear n0_ n1_ n2_ n3_ n4_ n5_ n6_ n7_ n8_ n9_ n10_ n11_ n12_ n13_ n14_
                                have hHeld : w81.cell? ⟨gb101, 0, none⟩ = some (.int .i64 a0_0) ∧ w81.cell? ⟨gb101, 1, none⟩ = some (.int .i64 a0_1) ∧ w81.cell? ⟨gb101, 2, none⟩ = some (.int .i64 a0_2) := hS_
                                refine norm_ (a' := ?_) ?_ ?_
                                rotate_left
                                ·simp only [putAll, Act.put, List.setIfInBounds_toArray, List.set_cons_zero, List.set_cons_succ]
                                 rfl
                                refine one_ (i := 3) (N := some 92) #[true, true, true, true, true, true, false, false, false, false, false, false, true, false, false, false] rfl rfl (one_of HT_.out (by kernel_rfl)) (by decide) (fun K hK => ?_)
                                refine Kd.R_append_rows_step Kd.bool (w0 := w) w.heap.size (by rfl) (.tmp 90) (.tmp 91) 24 4 (.bool false) 1 rfl Try.underlying24 info4 rfl (by decide) (by omega) v139 y138 l1 _ _ _ (fun _ => True) (fun _ => False) rfl rfl ?aO ?aR (fun _ _ h => h) (fun _ h => h.elim) ?aF ?aB ?aS ?aL ?_
                                (case aR => repeat (first | exact (Kd.C_below HR1.out HB.out) | (with_reducible refine Kd.C_alloc ?_ _) | (with_reducible refine Kd.C_drewN ?_ _) | (with_reducible refine Kd.C_drew ?_)))
                                (case aB => exact (by repeat (first | (with_reducible first | exact HB.out | apply below_alloc | apply pw_below_drewN | apply below_drew1 | refine below_set ?_ GE101.out | refine below_set ?_ GE116.out | refine below_set ?_ GE136.out | refine below_set ?_ GE156.out) | exact HB.out)))
                                (case aF => exact (fun _ _ => trivial))
                                (case aO => exact (by (with_reducible repeat (first | apply Kd.R_alloc | apply Kd.R_drewN | apply Kd.R_drew)); exact HO140.out))
                                (case aS => exact (below_size (by repeat (first | (with_reducible first | exact HB.out | apply below_alloc | apply pw_below_drewN | apply below_drew1 | refine below_set ?_ GE101.out | refine below_set ?_ GE116.out | refine below_set ?_ GE136.out | refine below_set ?_ GE156.out) | exact HB.out))))
                                (case aL => have := LMc64.out; omega)
                                intro v142 w82 ho hb hg hat
                                rw [← Ny141.out] at ho
                                have n0_ := Aside0.mk (Kd.R_over' (by (with_reducible repeat (first | apply Kd.R_alloc | apply Kd.R_drewN | apply Kd.R_drew)); exact HO_15.out) (Kd.R_typed (by (with_reducible repeat (first | apply Kd.R_alloc | apply Kd.R_drewN | apply Kd.R_drew)); exact HO140.out)) (by decide) hg)
                                have n1_ := Aside0.mk (blk_grown (g := gb101) (o := .cells #[.int .i64 a0_0, .int .i64 a0_1, .int .i64 a0_2] 23 (0, 0)) (by (with_reducible repeat (first | refine blk_drewN ?_ _ | refine blk_drew ?_ | refine blk_alloc ?_ _)); exact BK101.out) hg (Kd.R_ne HO140.out BK101.out (by decide)))
                                have n2_ := Aside0.mk (blk_grown (g := gb116) (o := .cells #[.bool t107, .bool t108, .int .i64 t109, .int .i64 t110, .int .i64 t111] 28 (0, 0)) (by (with_reducible repeat (first | refine blk_drewN ?_ _ | refine blk_drew ?_ | refine blk_alloc ?_ _)); exact BK116.out) hg (Kd.R_ne HO140.out BK116.out (by decide)))
                                have n3_ := Aside0.mk (blk_grown (g := gb136) (o := .cells #[.bool false, .bool t128, .int .i64 t129, .int .i64 t130, .int .i64 t131] 28 (0, 0)) (by (with_reducible repeat (first | refine blk_drewN ?_ _ | refine blk_drew ?_ | refine blk_alloc ?_ _)); exact BK136.out) hg (Kd.R_ne HO140.out BK136.out (by decide)))
                                have n4_ := Aside0.mk (blk_grown (g := gb156) (o := .cells #[.bool false, .bool false, .int .i64 0, .int .i64 0, .int .i64 0] 28 (0, 0)) (by (with_reducible repeat (first | refine blk_drewN ?_ _ | refine blk_drew ?_ | refine blk_alloc ?_ _)); exact BK156.out) hg (Kd.R_ne HO140.out BK156.out (by decide)))
                                have n5_ := Aside0.mk (hb)
                                have n6_ := Aside0.mk (ho)
                                clear HO_15
                                clear BK101
                                clear BK116
                                clear BK136
                                clear BK156
                                clear HB
                                clear HO140
                                have HO_15 := n0_
                                have BK101 := n1_
                                have BK116 := n2_
                                have BK136 := n3_
                                have BK156 := n4_
                                have HB := n5_
                                have HO143 := n6_
                                clear n0_ n1_ n2_ n3_ n4_ n5_ n6_
                                clear ho hb hg hat
                                refine hK.out _ _ ⟨(blk_cell BK101.out 0).trans rfl, (blk_cell BK101.out 1).trans rfl, (blk_cell BK101.out 2).trans rfl⟩ (fun hHeld => ?_)
                                clear hK K
                                refine norm_ (a' := ?_) ?_ ?_
                                rotate_left
                                ·show Act.put _ (some 92) _ = _
                                 simp only [Act.put, List.setIfInBounds_toArray, List.set_cons_zero, List.set_cons_succ, i64_w, i32_w]
                                 rfl
                                exact norm_ (by first | (simp only [putAll, Act.put, List.setIfInBounds_toArray, List.set_cons_zero, List.set_cons_succ]; done) | (simp only [putAll, Act.put, List.setIfInBounds_toArray, List.set_cons_zero, List.set_cons_succ]; rfl)) (hJ1_3_12 (v139, v142, gb156) _ ⟨hHeld, (by (with_reducible repeat (first | apply Kd.R_alloc | apply Kd.R_drewN | apply Kd.R_drew)); exact HO143.out), (by (with_reducible repeat (first | apply Kd.R_alloc | apply Kd.R_drewN | apply Kd.R_drew)); exact HO_15.out), (by (with_reducible repeat (first | refine blk_drewN ?_ _ | refine blk_drew ?_ | refine blk_alloc ?_ _)); exact BK101.out), (by (with_reducible repeat (first | refine blk_drewN ?_ _ | refine blk_drew ?_ | refine blk_alloc ?_ _)); exact BK116.out), (by (with_reducible repeat (first | refine blk_drewN ?_ _ | refine blk_drew ?_ | refine blk_alloc ?_ _)); exact BK136.out), (by (with_reducible repeat (first | refine blk_drewN ?_ _ | refine blk_drew ?_ | refine blk_alloc ?_ _)); exact BK156.out), GW156.out, GE156.out, NB101_156.out, NB156_101.out, NB116_156.out, NB156_116.out, NB136_156.out, NB156_136.out, (by repeat (first | (with_reducible first | exact HB.out | apply below_alloc | apply pw_below_drewN | apply below_drew1 | refine below_set ?_ GE101.out | refine below_set ?_ GE116.out | refine below_set ?_ GE136.out | refine below_set ?_ GE156.out) | exact HB.out))⟩)
                              ·skip
                               rintro ⟨v139, v142⟩ w81 ⟨hS_, h0_, h1_, h2_, h3_, h4_, h5_⟩
                               have n0_ : Aside0 (Kd.R Kd.bool 4 w81 w.heap.size (fun _ => True) v142 y141) := ⟨h0_⟩
                               have n1_ : Aside0 (Kd.R (Kd.int .i64) 3 w81 w.heap.size (fun _ => True) (.slice Ao76 t132.length co76) t132) := ⟨h1_⟩
                               have n2_ : Aside0 (w81.heap[gb101]? = some (.cells #[.int .i64 a0_0, .int .i64 a0_1, .int .i64 a0_2] 23 (0, 0))) := ⟨h2_⟩
                               have n3_ : Aside0 (w81.heap[gb116]? = some (.cells #[.bool t107, .bool t108, .int .i64 t109, .int .i64 t110, .int .i64 t111] 28 (0, 0))) := ⟨h3_⟩
                               have n4_ : Aside0 (w81.heap[gb136]? = some (.cells #[.bool false, .bool t128, .int .i64 t129, .int .i64 t130, .int .i64 t131] 28 (0, 0))) := ⟨h4_⟩
                               have n5_ : Aside0 (Below w.heap.size w w81) := ⟨h5_⟩
                               clear HO_15
                               clear BK101
                               clear BK116
                               clear BK136
                               clear HB
                               clear h0_ h1_ h2_ h3_ h4_ h5_
                               have HO143 := n0_
                               have HO_15 := n1_
                               have BK101 := n2_
                               have BK116 := n3_
                               have BK136 := n4_
                               have HB := n5_
                               clear n0_ n1_ n2_ n3_ n4_ n5_
                               have hHeld : w81.cell? ⟨gb101, 0, none⟩ = some (.int .i64 a0_0) ∧ w81.cell? ⟨gb101, 1, none⟩ = some (.int .i64 a0_1) ∧ w81.cell? ⟨gb101, 2, none⟩ = some (.int .i64 a0_2) := hS_
                               refine norm_ (a' := ?_) ?_ ?_
                               rotate_left
                               ·simp only [putAll, Act.put, List.setIfInBounds_toArray, List.set_cons_zero, List.set_cons_succ]
                                rfl
                               refine two_ (i := 6) (j := 12) (Ni := some 95) (Nj := some 18) #[true, true, true, true, true, true, true, false, false, false, false, false, false, false, false, false] #[true, true, true, true, true, true, false, false, false, false, false, false, true, false, false, false] rfl rfl rfl rfl (two_of HT_.out (by kernel_rfl)) (by decide) (by decide) (fun K hK => ?_) (fun K hK => ?_)
                               ·skip
                                refine Kd.R_append_zeros_step Kd.bool (w0 := w) w.heap.size (by rfl) (.tmp 92) (.tmp 94) 24 3 4 (.bool false) 1 rfl Try.underlying24 Try.underlying3 info4 rfl (by decide) (by omega) v142 y141 false (a0_1 : Int) (fun _ => True) rfl rfl rfl ?aF ?aO (of_decide_eq_true (by first | (with_reducible assumption) | assumption)) ?aB ?aS ?aL ?_
                                (case aB => exact (by repeat (first | (with_reducible first | exact HB.out | apply below_alloc | apply pw_below_drewN | apply below_drew1 | refine below_set ?_ GE101.out | refine below_set ?_ GE116.out | refine below_set ?_ GE136.out) | exact HB.out)))
                                (case aF => exact (fun _ _ => trivial))
                                (case aO => exact (by (with_reducible repeat (first | apply Kd.R_alloc | apply Kd.R_drewN | apply Kd.R_drew)); exact HO143.out))
                                (case aS => exact (below_size (by repeat (first | (with_reducible first | exact HB.out | apply below_alloc | apply pw_below_drewN | apply below_drew1 | refine below_set ?_ GE101.out | refine below_set ?_ GE116.out | refine below_set ?_ GE136.out) | exact HB.out))))
                                (case aL => have := LMc66.out; omega)
                                intro v145 w82 ho hb hg hat
                                rw [← Ny144.out] at ho
                                have n0_ := Aside0.mk (Kd.R_over' (by (with_reducible repeat (first | apply Kd.R_alloc | apply Kd.R_drewN | apply Kd.R_drew)); exact HO_15.out) (Kd.R_typed (by (with_reducible repeat (first | apply Kd.R_alloc | apply Kd.R_drewN | apply Kd.R_drew)); exact HO143.out)) (by decide) hg)
                                have n1_ := Aside0.mk (blk_grown (g := gb101) (o := .cells #[.int .i64 a0_0, .int .i64 a0_1, .int .i64 a0_2] 23 (0, 0)) (by (with_reducible repeat (first | refine blk_drewN ?_ _ | refine blk_drew ?_ | refine blk_alloc ?_ _)); exact BK101.out) hg (Kd.R_ne HO143.out BK101.out (by decide)))
                                have n2_ := Aside0.mk (blk_grown (g := gb116) (o := .cells #[.bool t107, .bool t108, .int .i64 t109, .int .i64 t110, .int .i64 t111] 28 (0, 0)) (by (with_reducible repeat (first | refine blk_drewN ?_ _ | refine blk_drew ?_ | refine blk_alloc ?_ _)); exact BK116.out) hg (Kd.R_ne HO143.out BK116.out (by decide)))
                                have n3_ := Aside0.mk (blk_grown (g := gb136) (o := .cells #[.bool false, .bool t128, .int .i64 t129, .int .i64 t130, .int .i64 t131] 28 (0, 0)) (by (with_reducible repeat (first | refine blk_drewN ?_ _ | refine blk_drew ?_ | refine blk_alloc ?_ _)); exact BK136.out) hg (Kd.R_ne HO143.out BK136.out (by decide)))
                                have n4_ := Aside0.mk (hb)
                                have n5_ := Aside0.mk (ho)
                                clear HO_15
                                clear BK101
                                clear BK116
                                clear BK136
                                clear HB
                                clear HO143
                                have HO_15 := n0_
                                have BK101 := n1_
                                have BK116 := n2_
                                have BK136 := n3_
                                have HB := n4_
                                have HO146 := n5_
                                clear n0_ n1_ n2_ n3_ n4_ n5_
                                clear ho hb hg hat
                                refine hK.out _ _ ⟨(blk_cell BK101.out 0).trans rfl, (blk_cell BK101.out 1).trans rfl, (blk_cell BK101.out 2).trans rfl⟩ (fun hHeld => ?_)
                                clear hK K
                                refine norm_ (a' := ?_) ?_ ?_
                                rotate_left
                                ·show Act.put _ (some 95) _ = _
                                 simp only [Act.put, List.setIfInBounds_toArray, List.set_cons_zero, List.set_cons_succ, i64_w, i32_w]
                                 rfl
                                exact norm_ (by first | (simp only [putAll, Act.put, List.setIfInBounds_toArray, List.set_cons_zero, List.set_cons_succ]; done) | (simp only [putAll, Act.put, List.setIfInBounds_toArray, List.set_cons_zero, List.set_cons_succ]; rfl)) (hJ1_3_6 (v139, v142, v145) _ ⟨hHeld, (by (with_reducible repeat (first | apply Kd.R_alloc | apply Kd.R_drewN | apply Kd.R_drew)); exact HO146.out), (by (with_reducible repeat (first | apply Kd.R_alloc | apply Kd.R_drewN | apply Kd.R_drew)); exact HO_15.out), (by (with_reducible repeat (first | refine blk_drewN ?_ _ | refine blk_drew ?_ | refine blk_alloc ?_ _)); exact BK101.out), (by (with_reducible repeat (first | refine blk_drewN ?_ _ | refine blk_drew ?_ | refine blk_alloc ?_ _)); exact BK116.out), (by (with_reducible repeat (first | refine blk_drewN ?_ _ | refine blk_drew ?_ | refine blk_alloc ?_ _)); exact BK136.out), (by repeat (first | (with_reducible first | exact HB.out | apply below_alloc | apply pw_below_drewN | apply below_drew1 | refine below_set ?_ GE101.out | refine below_set ?_ GE116.out | refine below_set ?_ GE136.out) | exact HB.out))⟩)
                               ·skip
                                refine box_step ?hg (N := 18) ?hd (cs := #[.bool false, .bool false, .int .i64 0, .int .i64 0, .int .i64 0]) (t := 28) ?hr ?_; (case hd => rfl); (case hg => rfl); (case hr => first | (go_simp; done) | (go_simp; rfl))
                                intro gb156 hg w82 hbox hb
                                have n0_ := Aside0.mk (Kd.R_below (by (with_reducible repeat (first | apply Kd.R_alloc | apply Kd.R_drewN | apply Kd.R_drew)); exact HO_15.out) hb)
                                have n1_ := Aside0.mk (Kd.R_below (by (with_reducible repeat (first | apply Kd.R_alloc | apply Kd.R_drewN | apply Kd.R_drew)); exact HO143.out) hb)
                                have n2_ := Aside0.mk (blk_below (g := gb101) (o := .cells #[.int .i64 a0_0, .int .i64 a0_1, .int .i64 a0_2] 23 (0, 0)) (by (with_reducible repeat (first | refine blk_drewN ?_ _ | refine blk_drew ?_ | refine blk_alloc ?_ _)); exact BK101.out) hb)
                                have n3_ := Aside0.mk (blk_below (g := gb116) (o := .cells #[.bool t107, .bool t108, .int .i64 t109, .int .i64 t110, .int .i64 t111] 28 (0, 0)) (by (with_reducible repeat (first | refine blk_drewN ?_ _ | refine blk_drew ?_ | refine blk_alloc ?_ _)); exact BK116.out) hb)
                                have n4_ := Aside0.mk (blk_below (g := gb136) (o := .cells #[.bool false, .bool t128, .int .i64 t129, .int .i64 t130, .int .i64 t131] 28 (0, 0)) (by (with_reducible repeat (first | refine blk_drewN ?_ _ | refine blk_drew ?_ | refine blk_alloc ?_ _)); exact BK136.out) hb)
                                have n5_ := Aside0.mk (below_step (by repeat (first | (with_reducible first | exact HB.out | apply below_alloc | apply pw_below_drewN | apply below_drew1 | refine below_set ?_ GE101.out | refine below_set ?_ GE116.out | refine below_set ?_ GE136.out) | exact HB.out)) hb)
                                have n6_ := Aside0.mk (hbox)
                                have n7_ := Aside0.mk ((by rw [hg]; exact (below_size (by repeat (first | (with_reducible first | exact HB.out | apply below_alloc | apply pw_below_drewN | apply below_drew1 | refine below_set ?_ GE101.out | refine below_set ?_ GE116.out | refine below_set ?_ GE136.out) | exact HB.out))) : w.heap.size ≤ gb156))
                                have n8_ := Aside0.mk ((by rw [hg]; exact (below_size (by repeat (first | (with_reducible first | exact HB.out | apply below_alloc | apply pw_below_drewN | apply below_drew1 | refine below_set ?_ GE101.out | refine below_set ?_ GE116.out | refine below_set ?_ GE136.out) | exact HB.out))) : w.heap.size ≤ gb156))
                                have n9_ := Aside0.mk ((by rw [hg]; exact Nat.ne_of_lt (blk_lt (g := gb101) (o := .cells #[.int .i64 a0_0, .int .i64 a0_1, .int .i64 a0_2] 23 (0, 0)) (by (with_reducible repeat (first | refine blk_drewN ?_ _ | refine blk_drew ?_ | refine blk_alloc ?_ _)); exact BK101.out)) : gb101 ≠ gb156))
                                have n10_ := Aside0.mk ((by rw [hg]; exact Nat.ne_of_gt (blk_lt (g := gb101) (o := .cells #[.int .i64 a0_0, .int .i64 a0_1, .int .i64 a0_2] 23 (0, 0)) (by (with_reducible repeat (first | refine blk_drewN ?_ _ | refine blk_drew ?_ | refine blk_alloc ?_ _)); exact BK101.out)) : gb156 ≠ gb101))
                                have n11_ := Aside0.mk ((by rw [hg]; exact Nat.ne_of_lt (blk_lt (g := gb116) (o := .cells #[.bool t107, .bool t108, .int .i64 t109, .int .i64 t110, .int .i64 t111] 28 (0, 0)) (by (with_reducible repeat (first | refine blk_drewN ?_ _ | refine blk_drew ?_ | refine blk_alloc ?_ _)); exact BK116.out)) : gb116 ≠ gb156))
                                have n12_ := Aside0.mk ((by rw [hg]; exact Nat.ne_of_gt (blk_lt (g := gb116) (o := .cells #[.bool t107, .bool t108, .int .i64 t109, .int .i64 t110, .int .i64 t111] 28 (0, 0)) (by (with_reducible repeat (first | refine blk_drewN ?_ _ | refine blk_drew ?_ | refine blk_alloc ?_ _)); exact BK116.out)) : gb156 ≠ gb116))
                                have n13_ := Aside0.mk ((by rw [hg]; exact Nat.ne_of_lt (blk_lt (g := gb136) (o := .cells #[.bool false, .bool t128, .int .i64 t129, .int .i64 t130, .int .i64 t131] 28 (0, 0)) (by (with_reducible repeat (first | refine blk_drewN ?_ _ | refine blk_drew ?_ | refine blk_alloc ?_ _)); exact BK136.out)) : gb136 ≠ gb156))
                                have n14_ := Aside0.mk ((by rw [hg]; exact Nat.ne_of_gt (blk_lt (g := gb136) (o := .cells #[.bool false, .bool t128, .int .i64 t129, .int .i64 t130, .int .i64 t131] 28 (0, 0)) (by (with_reducible repeat (first | refine blk_drewN ?_ _ | refine blk_drew ?_ | refine blk_alloc ?_ _)); exact BK136.out)) : gb156 ≠ gb136))
                                clear HO_15
                                clear HO143
                                clear BK101
                                clear BK116
                                clear BK136
                                clear HB
                                have HO_15 := n0_
                                have HO143 := n1_
                                have BK101 := n2_
                                have BK116 := n3_
                                have BK136 := n4_
                                have HB := n5_
                                have BK156 := n6_
                                have GW156 := n7_
                                have GE156 := n8_
                                have NB101_156 := n9_
                                have NB156_101 := n10_
                                have NB116_156 := n11_
                                have NB156_116 := n12_
                                have NB136_156 := n13_
                                have NB156_136 := n14_
                                clear n0_ n1_ n2_ n3_ n4_ n5_ n6_ n7_ n8_ n9_ n10_ n11_ n12_ n13_ n14_
                                clear hb hbox hg
                                refine hK.out _ _ ⟨(blk_cell BK101.out 0).trans rfl, (blk_cell BK101.out 1).trans rfl, (blk_cell BK101.out 2).trans rfl⟩ (fun hHeld => ?_)
                                clear hK K
                                refine norm_ (a' := ?_) ?_ ?_
                                rotate_left
                                ·show Act.put _ (some 18) _ = _
                                 simp only [Act.put, List.setIfInBounds_toArray, List.set_cons_zero, List.set_cons_succ, i64_w, i32_w]
                                 rfl
                                exact norm_ (by first | (simp only [putAll, Act.put, List.setIfInBounds_toArray, List.set_cons_zero, List.set_cons_succ]; done) | (simp only [putAll, Act.put, List.setIfInBounds_toArray, List.set_cons_zero, List.set_cons_succ]; rfl)) (hJ1_3_12 (v139, v142, gb156) _ ⟨hHeld, (by (with_reducible repeat (first | apply Kd.R_alloc | apply Kd.R_drewN | apply Kd.R_drew)); exact HO143.out), (by (with_reducible repeat (first | apply Kd.R_alloc | apply Kd.R_drewN | apply Kd.R_drew)); exact HO_15.out), (by (with_reducible repeat (first | refine blk_drewN ?_ _ | refine blk_drew ?_ | refine blk_alloc ?_ _)); exact BK101.out), (by (with_reducible repeat (first | refine blk_drewN ?_ _ | refine blk_drew ?_ | refine blk_alloc ?_ _)); exact BK116.out), (by (with_reducible repeat (first | refine blk_drewN ?_ _ | refine blk_drew ?_ | refine blk_alloc ?_ _)); exact BK136.out), (by (with_reducible repeat (first | refine blk_drewN ?_ _ | refine blk_drew ?_ | refine blk_alloc ?_ _)); exact BK156.out), GW156.out, GE156.out, NB101_156.out, NB156_101.out, NB116_156.out, NB156_116.out, NB136_156.out, NB156_136.out, (by repeat (first | (with_reducible first | exact HB.out | apply below_alloc | apply pw_below_drewN | apply below_drew1 | refine below_set ?_ GE101.out | refine below_set ?_ GE116.out | refine below_set ?_ GE136.out | refine below_set ?_ GE156.out) | exact HB.out))⟩)
                             ·skip
                              rintro ⟨v139, v142, gb156⟩ w82 ⟨hS_, h0_, h1_, h2_, h3_, h4_, h5_, h6_, h7_, h8_, h9_, h10_, h11_, h12_, h13_, h14_⟩
                              have n0_ : Aside0 (Kd.R Kd.bool 4 w82 w.heap.size (fun _ => True) v142 y141) := ⟨h0_⟩
                              have n1_ : Aside0 (Kd.R (Kd.int .i64) 3 w82 w.heap.size (fun _ => True) (.slice Ao76 t132.length co76) t132) := ⟨h1_⟩
                              have n2_ : Aside0 (w82.heap[gb101]? = some (.cells #[.int .i64 a0_0, .int .i64 a0_1, .int .i64 a0_2] 23 (0, 0))) := ⟨h2_⟩
                              have n3_ : Aside0 (w82.heap[gb116]? = some (.cells #[.bool t107, .bool t108, .int .i64 t109, .int .i64 t110, .int .i64 t111] 28 (0, 0))) := ⟨h3_⟩
                              have n4_ : Aside0 (w82.heap[gb136]? = some (.cells #[.bool false, .bool t128, .int .i64 t129, .int .i64 t130, .int .i64 t131] 28 (0, 0))) := ⟨h4_⟩
                              have n5_ : Aside0 (w82.heap[gb156]? = some (.cells #[.bool false, .bool false, .int .i64 0, .int .i64 0, .int .i64 0] 28 (0, 0))) := ⟨h5_⟩
                              have n6_ : Aside0 (w.heap.size ≤ gb156) := ⟨h6_⟩
                              have n7_ : Aside0 (w.heap.size ≤ gb156) := ⟨h7_⟩
                              have n8_ : Aside0 (gb101 ≠ gb156) := ⟨h8_⟩
                              have n9_ : Aside0 (gb156 ≠ gb101) := ⟨h9_⟩
                              have n10_ : Aside0 (gb116 ≠ gb156) := ⟨h10_⟩
                              have n11_ : Aside0 (gb156 ≠ gb116) := ⟨h11_⟩
                              have n12_ : Aside0 (gb136 ≠ gb156) := ⟨h12_⟩
                              have n13_ : Aside0 (gb156 ≠ gb136) := ⟨h13_⟩
                              have n14_ : Aside0 (Below w.heap.size w w82) := ⟨h14_⟩
                              clear HO_15
                              clear BK101
                              clear BK116
                              clear BK136
                              clear HB
                              clear h0_ h1_ h2_ h3_ h4_ h5_ h6_ h7_ h8_ h9_ h10_ h11_ h12_ h13_ h14_
                              have HO143 := n0_
                              have HO_15 := n1_
                              have BK101 := n2_
                              have BK116 := n3_
                              have BK136 := n4_
                              have BK156 := n5_
                              have GW156 := n6_
                              have GE156 := n7_
                              have NB101_156 := n8_
                              have NB156_101 := n9_
                              have NB116_156 := n10_
                              have NB156_116 := n11_
                              have NB136_156 := n12_
                              have NB156_136 := n13_
                              have HB := n14_
                              clear n0_ n1_ n2_ n3_ n4_ n5_ n6_ n7_ n8_ n9_ n10_ n11_ n12_ n13_ n14_
                              have hHeld : w82.cell? ⟨gb101, 0, none⟩ = some (.int .i64 a0_0) ∧ w82.cell? ⟨gb101, 1, none⟩ = some (.int .i64 a0_1) ∧ w82.cell? ⟨gb101, 2, none⟩ = some (.int .i64 a0_2) := hS_
                              refine norm_ (a' := ?_) ?_ ?_
                              rotate_left
                              ·simp only [putAll, Act.put, List.setIfInBounds_toArray, List.set_cons_zero, List.set_cons_succ]
                               rfl
                              refine one_ (i := 6) (N := some 95) #[true, true, true, true, true, true, true, false, false, false, false, false, true, false, false, false] rfl rfl (one_of HT_.out (by kernel_rfl)) (by decide) (fun K hK => ?_)
                              refine Kd.R_append_zeros_step Kd.bool (w0 := w) w.heap.size (by rfl) (.tmp 92) (.tmp 94) 24 3 4 (.bool false) 1 rfl Try.underlying24 Try.underlying3 info4 rfl (by decide) (by omega) v142 y141 false (a0_1 : Int) (fun _ => True) rfl rfl rfl ?aF ?aO (of_decide_eq_true (by first | (with_reducible assumption) | assumption)) ?aB ?aS ?aL ?_
                              (case aB => exact (by repeat (first | (with_reducible first | exact HB.out | apply below_alloc | apply pw_below_drewN | apply below_drew1 | refine below_set ?_ GE101.out | refine below_set ?_ GE116.out | refine below_set ?_ GE136.out | refine below_set ?_ GE156.out) | exact HB.out)))
                              (case aF => exact (fun _ _ => trivial))
                              (case aO => exact (by (with_reducible repeat (first | apply Kd.R_alloc | apply Kd.R_drewN | apply Kd.R_drew)); exact HO143.out))
                              (case aS => exact (below_size (by repeat (first | (with_reducible first | exact HB.out | apply below_alloc | apply pw_below_drewN | apply below_drew1 | refine below_set ?_ GE101.out | refine below_set ?_ GE116.out | refine below_set ?_ GE136.out | refine below_set ?_ GE156.out) | exact HB.out))))
                              (case aL => have := LMc66.out; omega)
                              intro v145 w83 ho hb hg hat
                              rw [← Ny144.out] at ho
                              have n0_ := Aside0.mk (Kd.R_over' (by (with_reducible repeat (first | apply Kd.R_alloc | apply Kd.R_drewN | apply Kd.R_drew)); exact HO_15.out) (Kd.R_typed (by (with_reducible repeat (first | apply Kd.R_alloc | apply Kd.R_drewN | apply Kd.R_drew)); exact HO143.out)) (by decide) hg)
                              have n1_ := Aside0.mk (blk_grown (g := gb101) (o := .cells #[.int .i64 a0_0, .int .i64 a0_1, .int .i64 a0_2] 23 (0, 0)) (by (with_reducible repeat (first | refine blk_drewN ?_ _ | refine blk_drew ?_ | refine blk_alloc ?_ _)); exact BK101.out) hg (Kd.R_ne HO143.out BK101.out (by decide)))
                              have n2_ := Aside0.mk (blk_grown (g := gb116) (o := .cells #[.bool t107, .bool t108, .int .i64 t109, .int .i64 t110, .int .i64 t111] 28 (0, 0)) (by (with_reducible repeat (first | refine blk_drewN ?_ _ | refine blk_drew ?_ | refine blk_alloc ?_ _)); exact BK116.out) hg (Kd.R_ne HO143.out BK116.out (by decide)))
                              have n3_ := Aside0.mk (blk_grown (g := gb136) (o := .cells #[.bool false, .bool t128, .int .i64 t129, .int .i64 t130, .int .i64 t131] 28 (0, 0)) (by (with_reducible repeat (first | refine blk_drewN ?_ _ | refine blk_drew ?_ | refine blk_alloc ?_ _)); exact BK136.out) hg (Kd.R_ne HO143.out BK136.out (by decide)))
                              have n4_ := Aside0.mk (blk_grown (g := gb156) (o := .cells #[.bool false, .bool false, .int .i64 0, .int .i64 0, .int .i64 0] 28 (0, 0)) (by (with_reducible repeat (first | refine blk_drewN ?_ _ | refine blk_drew ?_ | refine blk_alloc ?_ _)); exact BK156.out) hg (Kd.R_ne HO143.out BK156.out (by decide)))
                              have n5_ := Aside0.mk (hb)
                              have n6_ := Aside0.mk (ho)
                              clear HO_15
                              clear BK101
                              clear BK116
                              clear BK136
                              clear BK156
                              clear HB
                              clear HO143
                              have HO_15 := n0_
                              have BK101 := n1_
                              have BK116 := n2_
                              have BK136 := n3_
                              have BK156 := n4_
                              have HB := n5_
                              have HO146 := n6_
                              clear n0_ n1_ n2_ n3_ n4_ n5_ n6_
                              clear ho hb hg hat
                              refine hK.out _ _ ⟨(blk_cell BK101.out 0).trans rfl, (blk_cell BK101.out 1).trans rfl, (blk_cell BK101.out 2).trans rfl⟩ (fun hHeld => ?_)
                              clear hK K
                              refine norm_ (a' := ?_) ?_ ?_
                              rotate_left
                              ·show Act.put _ (some 95) _ = _
                               simp only [Act.put, List.setIfInBounds_toArray, List.set_cons_zero, List.set_cons_succ, i64_w, i32_w]
                               rfl
                              exact norm_ (by first | (simp only [putAll, Act.put, List.setIfInBounds_toArray, List.set_cons_zero, List.set_cons_succ]; done) | (simp only [putAll, Act.put, List.setIfInBounds_toArray, List.set_cons_zero, List.set_cons_succ]; rfl)) (hJ1_3_6_12 (v139, v142, v145, gb156) _ ⟨hHeld, (by (with_reducible repeat (first | apply Kd.R_alloc | apply Kd.R_drewN | apply Kd.R_drew)); exact HO146.out), (by (with_reducible repeat (first | apply Kd.R_alloc | apply Kd.R_drewN | apply Kd.R_drew)); exact HO_15.out), (by (with_reducible repeat (first | refine blk_drewN ?_ _ | refine blk_drew ?_ | refine blk_alloc ?_ _)); exact BK101.out), (by (with_reducible repeat (first | refine blk_drewN ?_ _ | refine blk_drew ?_ | refine blk_alloc ?_ _)); exact BK116.out), (by (with_reducible repeat (first | refine blk_drewN ?_ _ | refine blk_drew ?_ | refine blk_alloc ?_ _)); exact BK136.out), (by (with_reducible repeat (first | refine blk_drewN ?_ _ | refine blk_drew ?_ | refine blk_alloc ?_ _)); exact BK156.out), GW156.out, GE156.out, NB101_156.out, NB156_101.out, NB116_156.out, NB156_116.out, NB136_156.out, NB156_136.out, (by repeat (first | (with_reducible first | exact HB.out | apply below_alloc | apply pw_below_drewN | apply below_drew1 | refine below_set ?_ GE101.out | refine below_set ?_ GE116.out | refine below_set ?_ GE136.out | refine below_set ?_ GE156.out) | exact HB.out))⟩)
                            ·skip
                             rintro ⟨v139, v142, v145⟩ w82 ⟨hS_, h0_, h1_, h2_, h3_, h4_, h5_⟩
                             have n0_ : Aside0 (Kd.R Kd.bool 4 w82 w.heap.size (fun _ => True) v145 y144) := ⟨h0_⟩
                             have n1_ : Aside0 (Kd.R (Kd.int .i64) 3 w82 w.heap.size (fun _ => True) (.slice Ao76 t132.length co76) t132) := ⟨h1_⟩
                             have n2_ : Aside0 (w82.heap[gb101]? = some (.cells #[.int .i64 a0_0, .int .i64 a0_1, .int .i64 a0_2] 23 (0, 0))) := ⟨h2_⟩
                             have n3_ : Aside0 (w82.heap[gb116]? = some (.cells #[.bool t107, .bool t108, .int .i64 t109, .int .i64 t110, .int .i64 t111] 28 (0, 0))) := ⟨h3_⟩
                             have n4_ : Aside0 (w82.heap[gb136]? = some (.cells #[.bool false, .bool t128, .int .i64 t129, .int .i64 t130, .int .i64 t131] 28 (0, 0))) := ⟨h4_⟩
                             have n5_ : Aside0 (Below w.heap.size w w82) := ⟨h5_⟩
                             clear HO_15
                             clear BK101
                             clear BK116
                             clear BK136
                             clear HB
                             clear h0_ h1_ h2_ h3_ h4_ h5_
                             have HO146 := n0_
                             have HO_15 := n1_
                             have BK101 := n2_
                             have BK116 := n3_
                             have BK136 := n4_
                             have HB := n5_
                             clear n0_ n1_ n2_ n3_ n4_ n5_
                             have hHeld : w82.cell? ⟨gb101, 0, none⟩ = some (.int .i64 a0_0) ∧ w82.cell? ⟨gb101, 1, none⟩ = some (.int .i64 a0_1) ∧ w82.cell? ⟨gb101, 2, none⟩ = some (.int .i64 a0_2) := hS_
                             obtain ⟨Ao83, co83, eo83⟩ := Kd.R_slice HO146.out
                             (first | subst eo83 | (injection eo83 with f1_ f2_ f3_; have f4_ := f1_.symm; have f5_ := f3_.symm; clear f1_ f2_ f3_; subst f4_; subst f5_))
                             refine norm_ (a' := ?_) ?_ ?_
                             rotate_left
                             ·simp only [putAll, Act.put, List.setIfInBounds_toArray, List.set_cons_zero, List.set_cons_succ]
                              rfl
                             refine two_ (i := 7) (j := 12) (Ni := some 96) (Nj := some 18) #[true, true, true, true, true, true, true, true, false, false, false, false, false, false, false, false] #[true, true, true, true, true, true, true, false, false, false, false, false, true, false, false, false] rfl rfl rfl rfl (two_of HT_.out (by kernel_rfl)) (by decide) (by decide) (fun K hK => ?_) (fun K hK => ?_)
                             ·skip
                              refine goes_ Try.func17 (by kernel_rfl) rfl #[.agg #[.int .i64 a0_0, .int .i64 a0_1, .int .i64 a0_2], .slice Ao83 y144.length co83] (by rfl) rfl rfl (by (try simp only [List.map_toArray, List.map_cons, List.map_nil]); first | done | rfl | (simp only [List.length_drop, List.length_take]; rfl)) ?_
                              with_reducible refine (latch_Run.calls k4 a0_0 a0_1 a0_2 _ _ y144 t147 t148 t149 t150 t151 t152 t155 _ ?side1 ?side2 A67.out).mono ?_
                              (case side1 => repeat (first | exact (Kd.R_reads' HO146.out).2.2 | (with_reducible refine Kd.C_alloc ?_ _) | (with_reducible refine Kd.C_drewN ?_ _) | (with_reducible refine Kd.C_drew ?_)))
                              (case side2 => exact (Kd.R_reads' HO146.out).2.1)
                              rintro e w84 ⟨v153, rfl, ho0, hb⟩
                              refine ⟨_, rfl, ?_⟩
                              have n0_ := Aside0.mk (Kd.R_elder' (by (with_reducible repeat (first | apply Kd.R_alloc | apply Kd.R_drewN | apply Kd.R_drew)); exact HO_15.out) (Kd.R_base ho0) hb)
                              have n1_ := Aside0.mk (Kd.R_below (by (with_reducible repeat (first | apply Kd.R_alloc | apply Kd.R_drewN | apply Kd.R_drew)); exact HO146.out) hb)
                              have n2_ := Aside0.mk (Kd.R_lower (Kd.R_new' ho0 (Kd.R_lt (by (with_reducible repeat (first | apply Kd.R_alloc | apply Kd.R_drewN | apply Kd.R_drew)); exact HO_15.out))) (below_size (by repeat (first | (with_reducible first | exact HB.out | apply below_alloc | apply pw_below_drewN | apply below_drew1 | refine below_set ?_ GE101.out | refine below_set ?_ GE116.out | refine below_set ?_ GE136.out) | exact HB.out))))
                              have n3_ := Aside0.mk (blk_below (g := gb101) (o := .cells #[.int .i64 a0_0, .int .i64 a0_1, .int .i64 a0_2] 23 (0, 0)) (by (with_reducible repeat (first | refine blk_drewN ?_ _ | refine blk_drew ?_ | refine blk_alloc ?_ _)); exact BK101.out) hb)
                              have n4_ := Aside0.mk (blk_below (g := gb116) (o := .cells #[.bool t107, .bool t108, .int .i64 t109, .int .i64 t110, .int .i64 t111] 28 (0, 0)) (by (with_reducible repeat (first | refine blk_drewN ?_ _ | refine blk_drew ?_ | refine blk_alloc ?_ _)); exact BK116.out) hb)
                              have n5_ := Aside0.mk (blk_below (g := gb136) (o := .cells #[.bool false, .bool t128, .int .i64 t129, .int .i64 t130, .int .i64 t131] 28 (0, 0)) (by (with_reducible repeat (first | refine blk_drewN ?_ _ | refine blk_drew ?_ | refine blk_alloc ?_ _)); exact BK136.out) hb)
                              have n6_ := Aside0.mk (below_step (by repeat (first | (with_reducible first | exact HB.out | apply below_alloc | apply pw_below_drewN | apply below_drew1 | refine below_set ?_ GE101.out | refine below_set ?_ GE116.out | refine below_set ?_ GE136.out) | exact HB.out)) hb)
                              clear HO_15
                              clear HO146
                              clear BK101
                              clear BK116
                              clear BK136
                              clear HB
                              have HO_15 := n0_
                              have HO146 := n1_
                              have HO154 := n2_
                              have BK101 := n3_
                              have BK116 := n4_
                              have BK136 := n5_
                              have HB := n6_
                              clear n0_ n1_ n2_ n3_ n4_ n5_ n6_
                              (try clear hb)
                              (try clear hb2)
                              (try clear hk)
                              (try clear hi)
                              (try clear ho0)
                              refine hK.out _ _ ⟨(blk_cell BK101.out 0).trans rfl, (blk_cell BK101.out 1).trans rfl, (blk_cell BK101.out 2).trans rfl⟩ (fun hHeld => ?_)
                              clear hK K
                              refine norm_ (a' := ?_) ?_ ?_
                              rotate_left
                              ·show Act.put _ (some 96) _ = _
                               simp only [Act.put, List.setIfInBounds_toArray, List.set_cons_zero, List.set_cons_succ, i64_w, i32_w]
                               rfl
                              refine pure_ (i := 8) (N := some 88) (v := ?_) (a' := ?_) #[true, true, true, true, true, true, true, true, true, false, false, false, false, false, false, false] rfl rfl (any_of HT_.out (by kernel_rfl)) (fun _ _ _ h => h) (Or.inl ⟨by rfl, ?_⟩) ?_ ?_
                              rotate_left
                              ·intro w'
                               go_simp
                               with_reducible rfl
                              rotate_left
                              ·simp only [Act.put, List.setIfInBounds_toArray, List.set_cons_zero, List.set_cons_succ, i64_w, i32_w]
                               rfl
                              refine pure_ (i := 9) (N := some 97) (v := ?_) (a' := ?_) #[true, true, true, true, true, true, true, true, true, true, false, false, false, false, false, false] rfl rfl (any_of HT_.out (by kernel_rfl)) (fun _ _ _ h => h) (Or.inl ⟨by rfl, ?_⟩) ?_ ?_
                              rotate_left
                              ·intro w'
                               go_simp
                               with_reducible rfl
                              rotate_left
                              ·simp only [Act.put, List.setIfInBounds_toArray, List.set_cons_zero, List.set_cons_succ, i64_w, i32_w]
                               rfl
                              refine pure_ (i := 10) (N := some 98) (v := ?_) (a' := ?_) #[true, true, true, true, true, true, true, true, true, true, true, false, false, false, false, false] rfl rfl (any_of HT_.out (by kernel_rfl)) (fun _ _ _ h => h) (Or.inl ⟨by rfl, ?_⟩) ?_ ?_
                              rotate_left
                              ·intro w'
                               go_simp
                               with_reducible rfl
                              rotate_left
                              ·simp only [Act.put, List.setIfInBounds_toArray, List.set_cons_zero, List.set_cons_succ, i64_w, i32_w]
                               rfl
                              refine pure_ (i := 11) (N := some 99) (v := ?_) (a' := ?_) #[true, true, true, true, true, true, true, true, true, true, true, true, false, false, false, false] rfl rfl (any_of HT_.out (by kernel_rfl)) (fun _ _ _ h => h) (Or.inl ⟨by rfl, ?_⟩) ?_ ?_
                              rotate_left
                              ·intro w'
                               go_simp
                               with_reducible rfl
                              rotate_left
                              ·simp only [Act.put, List.setIfInBounds_toArray, List.set_cons_zero, List.set_cons_succ, i64_w, i32_w]
                               rfl
                              exact norm_ (by first | (simp only [putAll, Act.put, List.setIfInBounds_toArray, List.set_cons_zero, List.set_cons_succ]; done) | (simp only [putAll, Act.put, List.setIfInBounds_toArray, List.set_cons_zero, List.set_cons_succ]; rfl)) (hJ1_3_6_7 (v139, v142, .slice Ao83 y144.length co83, v153) _ ⟨hHeld, (by (with_reducible repeat (first | apply Kd.R_alloc | apply Kd.R_drewN | apply Kd.R_drew)); exact HO146.out), (by (with_reducible repeat (first | apply Kd.R_alloc | apply Kd.R_drewN | apply Kd.R_drew)); exact Kd.R_mono HO154.out (fun _ hk => hk.2)), (by (with_reducible repeat (first | apply Kd.R_alloc | apply Kd.R_drewN | apply Kd.R_drew)); exact Kd.R_mono HO_15.out (fun _ hk => hk.2)), (by (with_reducible repeat (first | refine blk_drewN ?_ _ | refine blk_drew ?_ | refine blk_alloc ?_ _)); exact BK101.out), (by (with_reducible repeat (first | refine blk_drewN ?_ _ | refine blk_drew ?_ | refine blk_alloc ?_ _)); exact BK116.out), (by (with_reducible repeat (first | refine blk_drewN ?_ _ | refine blk_drew ?_ | refine blk_alloc ?_ _)); exact BK136.out), (by repeat (first | (with_reducible first | exact HB.out | apply below_alloc | apply pw_below_drewN | apply below_drew1 | refine below_set ?_ GE101.out | refine below_set ?_ GE116.out | refine below_set ?_ GE136.out) | exact HB.out))⟩)
                             ·skip
                              refine box_step ?hg (N := 18) ?hd (cs := #[.bool false, .bool false, .int .i64 0, .int .i64 0, .int .i64 0]) (t := 28) ?hr ?_; (case hd => rfl); (case hg => rfl); (case hr => first | (go_simp; done) | (go_simp; rfl))
                              intro gb156 hg w83 hbox hb
                              have n0_ := Aside0.mk (Kd.R_below (by (with_reducible repeat (first | apply Kd.R_alloc | apply Kd.R_drewN | apply Kd.R_drew)); exact HO_15.out) hb)
                              have n1_ := Aside0.mk (Kd.R_below (by (with_reducible repeat (first | apply Kd.R_alloc | apply Kd.R_drewN | apply Kd.R_drew)); exact HO146.out) hb)
                              have n2_ := Aside0.mk (blk_below (g := gb101) (o := .cells #[.int .i64 a0_0, .int .i64 a0_1, .int .i64 a0_2] 23 (0, 0)) (by (with_reducible repeat (first | refine blk_drewN ?_ _ | refine blk_drew ?_ | refine blk_alloc ?_ _)); exact BK101.out) hb)
                              have n3_ := Aside0.mk (blk_below (g := gb116) (o := .cells #[.bool t107, .bool t108, .int .i64 t109, .int .i64 t110, .int .i64 t111] 28 (0, 0)) (by (with_reducible repeat (first | refine blk_drewN ?_ _ | refine blk_drew ?_ | refine blk_alloc ?_ _)); exact BK116.out) hb)
                              have n4_ := Aside0.mk (blk_below (g := gb136) (o := .cells #[.bool false, .bool t128, .int .i64 t129, .int .i64 t130, .int .i64 t131] 28 (0, 0)) (by (with_reducible repeat (first | refine blk_drewN ?_ _ | refine blk_drew ?_ | refine blk_alloc ?_ _)); exact BK136.out) hb)
                              have n5_ := Aside0.mk (below_step (by repeat (first | (with_reducible first | exact HB.out | apply below_alloc | apply pw_below_drewN | apply below_drew1 | refine below_set ?_ GE101.out | refine below_set ?_ GE116.out | refine below_set ?_ GE136.out) | exact HB.out)) hb)
                              have n6_ := Aside0.mk (hbox)
                              have n7_ := Aside0.mk ((by rw [hg]; exact (below_size (by repeat (first | (with_reducible first | exact HB.out | apply below_alloc | apply pw_below_drewN | apply below_drew1 | refine below_set ?_ GE101.out | refine below_set ?_ GE116.out | refine below_set ?_ GE136.out) | exact HB.out))) : w.heap.size ≤ gb156))
                              have n8_ := Aside0.mk ((by rw [hg]; exact (below_size (by repeat (first | (with_reducible first | exact HB.out | apply below_alloc | apply pw_below_drewN | apply below_drew1 | refine below_set ?_ GE101.out | refine below_set ?_ GE116.out | refine below_set ?_ GE136.out) | exact HB.out))) : w.heap.size ≤ gb156))
                              have n9_ := Aside0.mk ((by rw [hg]; exact Nat.ne_of_lt (blk_lt (g := gb101) (o := .cells #[.int .i64 a0_0, .int .i64 a0_1, .int .i64 a0_2] 23 (0, 0)) (by (with_reducible repeat (first | refine blk_drewN ?_ _ | refine blk_drew ?_ | refine blk_alloc ?_ _)); exact BK101.out)) : gb101 ≠ gb156))
                              have n10_ := Aside0.mk ((by rw [hg]; exact Nat.ne_of_gt (blk_lt (g := gb101) (o := .cells #[.int .i64 a0_0, .int .i64 a0_1, .int .i64 a0_2] 23 (0, 0)) (by (with_reducible repeat (first | refine blk_drewN ?_ _ | refine blk_drew ?_ | refine blk_alloc ?_ _)); exact BK101.out)) : gb156 ≠ gb101))
                              have n11_ := Aside0.mk ((by rw [hg]; exact Nat.ne_of_lt (blk_lt (g := gb116) (o := .cells #[.bool t107, .bool t108, .int .i64 t109, .int .i64 t110, .int .i64 t111] 28 (0, 0)) (by (with_reducible repeat (first | refine blk_drewN ?_ _ | refine blk_drew ?_ | refine blk_alloc ?_ _)); exact BK116.out)) : gb116 ≠ gb156))
                              have n12_ := Aside0.mk ((by rw [hg]; exact Nat.ne_of_gt (blk_lt (g := gb116) (o := .cells #[.bool t107, .bool t108, .int .i64 t109, .int .i64 t110, .int .i64 t111] 28 (0, 0)) (by (with_reducible repeat (first | refine blk_drewN ?_ _ | refine blk_drew ?_ | refine blk_alloc ?_ _)); exact BK116.out)) : gb156 ≠ gb116))
                              have n13_ := Aside0.mk ((by rw [hg]; exact Nat.ne_of_lt (blk_lt (g := gb136) (o := .cells #[.bool false, .bool t128, .int .i64 t129, .int .i64 t130, .int .i64 t131] 28 (0, 0)) (by (with_reducible repeat (first | refine blk_drewN ?_ _ | refine blk_drew ?_ | refine blk_alloc ?_ _)); exact BK136.out)) : gb136 ≠ gb156))
                              have n14_ := Aside0.mk ((by rw [hg]; exact Nat.ne_of_gt (blk_lt (g := gb136) (o := .cells #[.bool false, .bool t128, .int .i64 t129, .int .i64 t130, .int .i64 t131] 28 (0, 0)) (by (with_reducible repeat (first | refine blk_drewN ?_ _ | refine blk_drew ?_ | refine blk_alloc ?_ _)); exact BK136.out)) : gb156 ≠ gb136))
                              clear HO_15
                              clear HO146
                              clear BK101
                              clear BK116
                              clear BK136
                              clear HB
                              have HO_15 := n0_
                              have HO146 := n1_
                              have BK101 := n2_
                              have BK116 := n3_
                              have BK136 := n4_
                              have HB := n5_
                              have BK156 := n6_
                              have GW156 := n7_
                              have GE156 := n8_
                              have NB101_156 := n9_
                              have NB156_101 := n10_
                              have NB116_156 := n11_
                              have NB156_116 := n12_
                              have NB136_156 := n13_
                              have NB156_136 := n14_
                              clear n0_ n1_ n2_ n3_ n4_ n5_ n6_ n7_ n8_ n9_ n10_ n11_ n12_ n13_ n14_
                              clear hb hbox hg
                              refine hK.out _ _ ⟨(blk_cell BK101.out 0).trans rfl, (blk_cell BK101.out 1).trans rfl, (blk_cell BK101.out 2).trans rfl⟩ (fun hHeld => ?_)
                              clear hK K
                              refine norm_ (a' := ?_) ?_ ?_
                              rotate_left
                              ·show Act.put _ (some 18) _ = _
                               simp only [Act.put, List.setIfInBounds_toArray, List.set_cons_zero, List.set_cons_succ, i64_w, i32_w]
                               rfl
                              exact norm_ (by first | (simp only [putAll, Act.put, List.setIfInBounds_toArray, List.set_cons_zero, List.set_cons_succ]; done) | (simp only [putAll, Act.put, List.setIfInBounds_toArray, List.set_cons_zero, List.set_cons_succ]; rfl)) (hJ1_3_6_12 (v139, v142, .slice Ao83 y144.length co83, gb156) _ ⟨hHeld, (by (with_reducible repeat (first | apply Kd.R_alloc | apply Kd.R_drewN | apply Kd.R_drew)); exact HO146.out), (by (with_reducible repeat (first | apply Kd.R_alloc | apply Kd.R_drewN | apply Kd.R_drew)); exact HO_15.out), (by (with_reducible repeat (first | refine blk_drewN ?_ _ | refine blk_drew ?_ | refine blk_alloc ?_ _)); exact BK101.out), (by (with_reducible repeat (first | refine blk_drewN ?_ _ | refine blk_drew ?_ | refine blk_alloc ?_ _)); exact BK116.out), (by (with_reducible repeat (first | refine blk_drewN ?_ _ | refine blk_drew ?_ | refine blk_alloc ?_ _)); exact BK136.out), (by (with_reducible repeat (first | refine blk_drewN ?_ _ | refine blk_drew ?_ | refine blk_alloc ?_ _)); exact BK156.out), GW156.out, GE156.out, NB101_156.out, NB156_101.out, NB116_156.out, NB156_116.out, NB136_156.out, NB156_136.out, (by repeat (first | (with_reducible first | exact HB.out | apply below_alloc | apply pw_below_drewN | apply below_drew1 | refine below_set ?_ GE101.out | refine below_set ?_ GE116.out | refine below_set ?_ GE136.out | refine below_set ?_ GE156.out) | exact HB.out))⟩)
                           ·skip
                            rintro ⟨v139, v142, v145, gb156⟩ w83 ⟨hS_, h0_, h1_, h2_, h3_, h4_, h5_, h6_, h7_, h8_, h9_, h10_, h11_, h12_, h13_, h14_⟩
                            have n0_ : Aside0 (Kd.R Kd.bool 4 w83 w.heap.size (fun _ => True) v145 y144) := ⟨h0_⟩
                            have n1_ : Aside0 (Kd.R (Kd.int .i64) 3 w83 w.heap.size (fun _ => True) (.slice Ao76 t132.length co76) t132) := ⟨h1_⟩
                            have n2_ : Aside0 (w83.heap[gb101]? = some (.cells #[.int .i64 a0_0, .int .i64 a0_1, .int .i64 a0_2] 23 (0, 0))) := ⟨h2_⟩
                            have n3_ : Aside0 (w83.heap[gb116]? = some (.cells #[.bool t107, .bool t108, .int .i64 t109, .int .i64 t110, .int .i64 t111] 28 (0, 0))) := ⟨h3_⟩
                            have n4_ : Aside0 (w83.heap[gb136]? = some (.cells #[.bool false, .bool t128, .int .i64 t129, .int .i64 t130, .int .i64 t131] 28 (0, 0))) := ⟨h4_⟩
                            have n5_ : Aside0 (w83.heap[gb156]? = some (.cells #[.bool false, .bool false, .int .i64 0, .int .i64 0, .int .i64 0] 28 (0, 0))) := ⟨h5_⟩
                            have n6_ : Aside0 (w.heap.size ≤ gb156) := ⟨h6_⟩
                            have n7_ : Aside0 (w.heap.size ≤ gb156) := ⟨h7_⟩
                            have n8_ : Aside0 (gb101 ≠ gb156) := ⟨h8_⟩
                            have n9_ : Aside0 (gb156 ≠ gb101) := ⟨h9_⟩
                            have n10_ : Aside0 (gb116 ≠ gb156) := ⟨h10_⟩
                            have n11_ : Aside0 (gb156 ≠ gb116) := ⟨h11_⟩
                            have n12_ : Aside0 (gb136 ≠ gb156) := ⟨h12_⟩
                            have n13_ : Aside0 (gb156 ≠ gb136) := ⟨h13_⟩
                            have n14_ : Aside0 (Below w.heap.size w w83) := ⟨h14_⟩
                            clear HO_15
                            clear BK101
                            clear BK116
                            clear BK136
                            clear HB
                            clear h0_ h1_ h2_ h3_ h4_ h5_ h6_ h7_ h8_ h9_ h10_ h11_ h12_ h13_ h14_
                            have HO146 := n0_
                            have HO_15 := n1_
                            have BK101 := n2_
                            have BK116 := n3_
                            have BK136 := n4_
                            have BK156 := n5_
                            have GW156 := n6_
                            have GE156 := n7_
                            have NB101_156 := n8_
                            have NB156_101 := n9_
                            have NB116_156 := n10_
                            have NB156_116 := n11_
                            have NB136_156 := n12_
                            have NB156_136 := n13_
                            have HB := n14_
                            clear n0_ n1_ n2_ n3_ n4_ n5_ n6_ n7_ n8_ n9_ n10_ n11_ n12_ n13_ n14_
                            have hHeld : w83.cell? ⟨gb101, 0, none⟩ = some (.int .i64 a0_0) ∧ w83.cell? ⟨gb101, 1, none⟩ = some (.int .i64 a0_1) ∧ w83.cell? ⟨gb101, 2, none⟩ = some (.int .i64 a0_2) := hS_
                            obtain ⟨Ao84, co84, eo84⟩ := Kd.R_slice HO146.out
                            (first | subst eo84 | (injection eo84 with f1_ f2_ f3_; have f4_ := f1_.symm; have f5_ := f3_.symm; clear f1_ f2_ f3_; subst f4_; subst f5_))
                            refine norm_ (a' := ?_) ?_ ?_
                            rotate_left
                            ·simp only [putAll, Act.put, List.setIfInBounds_toArray, List.set_cons_zero, List.set_cons_succ]
                             rfl
                            refine one_ (i := 7) (N := some 96) #[true, true, true, true, true, true, true, true, false, false, false, false, true, false, false, false] rfl rfl (one_of HT_.out (by kernel_rfl)) (by decide) (fun K hK => ?_)
                            refine goes_ Try.func17 (by kernel_rfl) rfl #[.agg #[.int .i64 a0_0, .int .i64 a0_1, .int .i64 a0_2], .slice Ao84 y144.length co84] (by rfl) rfl rfl (by (try simp only [List.map_toArray, List.map_cons, List.map_nil]); first | done | rfl | (simp only [List.length_drop, List.length_take]; rfl)) ?_
                            with_reducible refine (latch_Run.calls k4 a0_0 a0_1 a0_2 _ _ y144 t147 t148 t149 t150 t151 t152 t155 _ ?side1 ?side2 A67.out).mono ?_
                            (case side1 => repeat (first | exact (Kd.R_reads' HO146.out).2.2 | (with_reducible refine Kd.C_alloc ?_ _) | (with_reducible refine Kd.C_drewN ?_ _) | (with_reducible refine Kd.C_drew ?_)))
                            (case side2 => exact (Kd.R_reads' HO146.out).2.1)
                            rintro e w85 ⟨v153, rfl, ho0, hb⟩
                            refine ⟨_, rfl, ?_⟩
                            have n0_ := Aside0.mk (Kd.R_elder' (by (with_reducible repeat (first | apply Kd.R_alloc | apply Kd.R_drewN | apply Kd.R_drew)); exact HO_15.out) (Kd.R_base ho0) hb)
                            have n1_ := Aside0.mk (Kd.R_below (by (with_reducible repeat (first | apply Kd.R_alloc | apply Kd.R_drewN | apply Kd.R_drew)); exact HO146.out) hb)
                            have n2_ := Aside0.mk (Kd.R_lower (Kd.R_new' ho0 (Kd.R_lt (by (with_reducible repeat (first | apply Kd.R_alloc | apply Kd.R_drewN | apply Kd.R_drew)); exact HO_15.out))) (below_size (by repeat (first | (with_reducible first | exact HB.out | apply below_alloc | apply pw_below_drewN | apply below_drew1 | refine below_set ?_ GE101.out | refine below_set ?_ GE116.out | refine below_set ?_ GE136.out | refine below_set ?_ GE156.out) | exact HB.out))))
                            have n3_ := Aside0.mk (blk_below (g := gb101) (o := .cells #[.int .i64 a0_0, .int .i64 a0_1, .int .i64 a0_2] 23 (0, 0)) (by (with_reducible repeat (first | refine blk_drewN ?_ _ | refine blk_drew ?_ | refine blk_alloc ?_ _)); exact BK101.out) hb)
                            have n4_ := Aside0.mk (blk_below (g := gb116) (o := .cells #[.bool t107, .bool t108, .int .i64 t109, .int .i64 t110, .int .i64 t111] 28 (0, 0)) (by (with_reducible repeat (first | refine blk_drewN ?_ _ | refine blk_drew ?_ | refine blk_alloc ?_ _)); exact BK116.out) hb)
                            have n5_ := Aside0.mk (blk_below (g := gb136) (o := .cells #[.bool false, .bool t128, .int .i64 t129, .int .i64 t130, .int .i64 t131] 28 (0, 0)) (by (with_reducible repeat (first | refine blk_drewN ?_ _ | refine blk_drew ?_ | refine blk_alloc ?_ _)); exact BK136.out) hb)
                            have n6_ := Aside0.mk (blk_below (g := gb156) (o := .cells #[.bool false, .bool false, .int .i64 0, .int .i64 0, .int .i64 0] 28 (0, 0)) (by (with_reducible repeat (first | refine blk_drewN ?_ _ | refine blk_drew ?_ | refine blk_alloc ?_ _)); exact BK156.out) hb)
                            have n7_ := Aside0.mk (below_step (by repeat (first | (with_reducible first | exact HB.out | apply below_alloc | apply pw_below_drewN | apply below_drew1 | refine below_set ?_ GE101.out | refine below_set ?_ GE116.out | refine below_set ?_ GE136.out | refine below_set ?_ GE156.out) | exact HB.out)) hb)
                            clear HO_15
                            clear HO146
                            clear BK101
                            clear BK116
                            clear BK136
                            clear BK156
                            clear HB
                            have HO_15 := n0_
                            have HO146 := n1_
                            have HO154 := n2_
                            have BK101 := n3_
                            have BK116 := n4_
                            have BK136 := n5_
                            have BK156 := n6_
                            have HB := n7_
                            clear n0_ n1_ n2_ n3_ n4_ n5_ n6_ n7_
                            (try clear hb)
                            (try clear hb2)
                            (try clear hk)
                            (try clear hi)
                            (try clear ho0)
                            refine hK.out _ _ ⟨(blk_cell BK101.out 0).trans rfl, (blk_cell BK101.out 1).trans rfl, (blk_cell BK101.out 2).trans rfl⟩ (fun hHeld => ?_)
                            clear hK K
                            refine norm_ (a' := ?_) ?_ ?_
                            rotate_left
                            ·show Act.put _ (some 96) _ = _
                             simp only [Act.put, List.setIfInBounds_toArray, List.set_cons_zero, List.set_cons_succ, i64_w, i32_w]
                             rfl
                            refine pure_ (i := 8) (N := some 88) (v := ?_) (a' := ?_) #[true, true, true, true, true, true, true, true, true, false, false, false, true, false, false, false] rfl rfl (any_of HT_.out (by kernel_rfl)) (fun _ _ _ h => h) (Or.inl ⟨by rfl, ?_⟩) ?_ ?_
                            rotate_left
                            ·intro w'
                             go_simp
                             with_reducible rfl
                            rotate_left
                            ·simp only [Act.put, List.setIfInBounds_toArray, List.set_cons_zero, List.set_cons_succ, i64_w, i32_w]
                             rfl
                            refine pure_ (i := 9) (N := some 97) (v := ?_) (a' := ?_) #[true, true, true, true, true, true, true, true, true, true, false, false, true, false, false, false] rfl rfl (any_of HT_.out (by kernel_rfl)) (fun _ _ _ h => h) (Or.inl ⟨by rfl, ?_⟩) ?_ ?_
                            rotate_left
                            ·intro w'
                             go_simp
                             with_reducible rfl
                            rotate_left
                            ·simp only [Act.put, List.setIfInBounds_toArray, List.set_cons_zero, List.set_cons_succ, i64_w, i32_w]
                             rfl
                            refine pure_ (i := 10) (N := some 98) (v := ?_) (a' := ?_) #[true, true, true, true, true, true, true, true, true, true, true, false, true, false, false, false] rfl rfl (any_of HT_.out (by kernel_rfl)) (fun _ _ _ h => h) (Or.inl ⟨by rfl, ?_⟩) ?_ ?_
                            rotate_left
                            ·intro w'
                             go_simp
                             with_reducible rfl
                            rotate_left
                            ·simp only [Act.put, List.setIfInBounds_toArray, List.set_cons_zero, List.set_cons_succ, i64_w, i32_w]
                             rfl
                            refine pure_ (i := 11) (N := some 99) (v := ?_) (a' := ?_) #[true, true, true, true, true, true, true, true, true, true, true, true, true, false, false, false] rfl rfl (any_of HT_.out (by kernel_rfl)) (fun _ _ _ h => h) (Or.inl ⟨by rfl, ?_⟩) ?_ ?_
                            rotate_left
                            ·intro w'
                             go_simp
                             with_reducible rfl
                            rotate_left
                            ·simp only [Act.put, List.setIfInBounds_toArray, List.set_cons_zero, List.set_cons_succ, i64_w, i32_w]
                             rfl
                            exact norm_ (by first | (simp only [putAll, Act.put, List.setIfInBounds_toArray, List.set_cons_zero, List.set_cons_succ]; done) | (simp only [putAll, Act.put, List.setIfInBounds_toArray, List.set_cons_zero, List.set_cons_succ]; rfl)) (hJ1_3_6_7_12 (v139, v142, .slice Ao84 y144.length co84, v153, gb156) _ ⟨hHeld, (by (with_reducible repeat (first | apply Kd.R_alloc | apply Kd.R_drewN | apply Kd.R_drew)); exact HO146.out), (by (with_reducible repeat (first | apply Kd.R_alloc | apply Kd.R_drewN | apply Kd.R_drew)); exact Kd.R_mono HO154.out (fun _ hk => hk.2)), (by (with_reducible repeat (first | apply Kd.R_alloc | apply Kd.R_drewN | apply Kd.R_drew)); exact Kd.R_mono HO_15.out (fun _ hk => hk.2)), (by (with_reducible repeat (first | refine blk_drewN ?_ _ | refine blk_drew ?_ | refine blk_alloc ?_ _)); exact BK101.out), (by (with_reducible repeat (first | refine blk_drewN ?_ _ | refine blk_drew ?_ | refine blk_alloc ?_ _)); exact BK116.out), (by (with_reducible repeat (first | refine blk_drewN ?_ _ | refine blk_drew ?_ | refine blk_alloc ?_ _)); exact BK136.out), (by (with_reducible repeat (first | refine blk_drewN ?_ _ | refine blk_drew ?_ | refine blk_alloc ?_ _)); exact BK156.out), GW156.out, GE156.out, NB101_156.out, NB156_101.out, NB116_156.out, NB156_116.out, NB136_156.out, NB156_136.out, (by repeat (first | (with_reducible first | exact HB.out | apply below_alloc | apply pw_below_drewN | apply below_drew1 | refine below_set ?_ GE101.out | refine below_set ?_ GE116.out | refine below_set ?_ GE136.out | refine below_set ?_ GE156.out) | exact HB.out))⟩)
                          ·skip
                           rintro ⟨v139, v142, v145, v153⟩ w84 ⟨hS_, h0_, h1_, h2_, h3_, h4_, h5_, h6_⟩
                           have n0_ : Aside0 (Kd.R Kd.bool 4 w84 w.heap.size (fun _ => True) v145 y144) := ⟨h0_⟩
                           have n1_ : Aside0 (Kd.R (Kd.int .i64) 3 w84 w.heap.size (fun k_ => some k_ ≠ (.slice Ao76 t132.length co76 : Value).ownBlock) v153 t152) := ⟨h1_⟩
                           have n2_ : Aside0 (Kd.R (Kd.int .i64) 3 w84 w.heap.size (fun k_ => some k_ ≠ (v153 : Value).ownBlock) (.slice Ao76 t132.length co76) t132) := ⟨h2_⟩
                           have n3_ : Aside0 (w84.heap[gb101]? = some (.cells #[.int .i64 a0_0, .int .i64 a0_1, .int .i64 a0_2] 23 (0, 0))) := ⟨h3_⟩
                           have n4_ : Aside0 (w84.heap[gb116]? = some (.cells #[.bool t107, .bool t108, .int .i64 t109, .int .i64 t110, .int .i64 t111] 28 (0, 0))) := ⟨h4_⟩
                           have n5_ : Aside0 (w84.heap[gb136]? = some (.cells #[.bool false, .bool t128, .int .i64 t129, .int .i64 t130, .int .i64 t131] 28 (0, 0))) := ⟨h5_⟩
                           have n6_ : Aside0 (Below w.heap.size w w84) := ⟨h6_⟩
                           clear HO_15
                           clear BK101
                           clear BK116
                           clear BK136
                           clear HB
                           clear h0_ h1_ h2_ h3_ h4_ h5_ h6_
                           have HO146 := n0_
                           have HO154 := n1_
                           have HO_15 := n2_
                           have BK101 := n3_
                           have BK116 := n4_
                           have BK136 := n5_
                           have HB := n6_
                           clear n0_ n1_ n2_ n3_ n4_ n5_ n6_
                           have hHeld : w84.cell? ⟨gb101, 0, none⟩ = some (.int .i64 a0_0) ∧ w84.cell? ⟨gb101, 1, none⟩ = some (.int .i64 a0_1) ∧ w84.cell? ⟨gb101, 2, none⟩ = some (.int .i64 a0_2) := hS_
                           refine norm_ (a' := ?_) ?_ ?_
                           rotate_left
                           ·simp only [putAll, Act.put, List.setIfInBounds_toArray, List.set_cons_zero, List.set_cons_succ]
                            rfl
                           refine one_ (i := 12) (N := some 18) #[true, true, true, true, true, true, true, true, true, true, true, true, true, false, false, false] rfl rfl (one_of HT_.out (by kernel_rfl)) (by decide) (fun K hK => ?_)
                           refine box_step ?hg (N := 18) ?hd (cs := #[.bool false, .bool false, .int .i64 0, .int .i64 0, .int .i64 0]) (t := 28) ?hr ?_; (case hd => rfl); (case hg => rfl); (case hr => first | (go_simp; done) | (go_simp; rfl))
                           intro gb156 hg w85 hbox hb
                           have n0_ := Aside0.mk (Kd.R_below (by (with_reducible repeat (first | apply Kd.R_alloc | apply Kd.R_drewN | apply Kd.R_drew)); exact HO_15.out) hb)
                           have n1_ := Aside0.mk (Kd.R_below (by (with_reducible repeat (first | apply Kd.R_alloc | apply Kd.R_drewN | apply Kd.R_drew)); exact HO146.out) hb)
                           have n2_ := Aside0.mk (Kd.R_below (by (with_reducible repeat (first | apply Kd.R_alloc | apply Kd.R_drewN | apply Kd.R_drew)); exact HO154.out) hb)
                           have n3_ := Aside0.mk (blk_below (g := gb101) (o := .cells #[.int .i64 a0_0, .int .i64 a0_1, .int .i64 a0_2] 23 (0, 0)) (by (with_reducible repeat (first | refine blk_drewN ?_ _ | refine blk_drew ?_ | refine blk_alloc ?_ _)); exact BK101.out) hb)
                           have n4_ := Aside0.mk (blk_below (g := gb116) (o := .cells #[.bool t107, .bool t108, .int .i64 t109, .int .i64 t110, .int .i64 t111] 28 (0, 0)) (by (with_reducible repeat (first | refine blk_drewN ?_ _ | refine blk_drew ?_ | refine blk_alloc ?_ _)); exact BK116.out) hb)
                           have n5_ := Aside0.mk (blk_below (g := gb136) (o := .cells #[.bool false, .bool t128, .int .i64 t129, .int .i64 t130, .int .i64 t131] 28 (0, 0)) (by (with_reducible repeat (first | refine blk_drewN ?_ _ | refine blk_drew ?_ | refine blk_alloc ?_ _)); exact BK136.out) hb)
                           have n6_ := Aside0.mk (below_step (by repeat (first | (with_reducible first | exact HB.out | apply below_alloc | apply pw_below_drewN | apply below_drew1 | refine below_set ?_ GE101.out | refine below_set ?_ GE116.out | refine below_set ?_ GE136.out) | exact HB.out)) hb)
                           have n7_ := Aside0.mk (hbox)
                           have n8_ := Aside0.mk ((by rw [hg]; exact (below_size (by repeat (first | (with_reducible first | exact HB.out | apply below_alloc | apply pw_below_drewN | apply below_drew1 | refine below_set ?_ GE101.out | refine below_set ?_ GE116.out | refine below_set ?_ GE136.out) | exact HB.out))) : w.heap.size ≤ gb156))
                           have n9_ := Aside0.mk ((by rw [hg]; exact (below_size (by repeat (first | (with_reducible first | exact HB.out | apply below_alloc | apply pw_below_drewN | apply below_drew1 | refine below_set ?_ GE101.out | refine below_set ?_ GE116.out | refine below_set ?_ GE136.out) | exact HB.out))) : w.heap.size ≤ gb156))
                           have n10_ := Aside0.mk ((by rw [hg]; exact Nat.ne_of_lt (blk_lt (g := gb101) (o := .cells #[.int .i64 a0_0, .int .i64 a0_1, .int .i64 a0_2] 23 (0, 0)) (by (with_reducible repeat (first | refine blk_drewN ?_ _ | refine blk_drew ?_ | refine blk_alloc ?_ _)); exact BK101.out)) : gb101 ≠ gb156))
                           have n11_ := Aside0.mk ((by rw [hg]; exact Nat.ne_of_gt (blk_lt (g := gb101) (o := .cells #[.int .i64 a0_0, .int .i64 a0_1, .int .i64 a0_2] 23 (0, 0)) (by (with_reducible repeat (first | refine blk_drewN ?_ _ | refine blk_drew ?_ | refine blk_alloc ?_ _)); exact BK101.out)) : gb156 ≠ gb101))
                           have n12_ := Aside0.mk ((by rw [hg]; exact Nat.ne_of_lt (blk_lt (g := gb116) (o := .cells #[.bool t107, .bool t108, .int .i64 t109, .int .i64 t110, .int .i64 t111] 28 (0, 0)) (by (with_reducible repeat (first | refine blk_drewN ?_ _ | refine blk_drew ?_ | refine blk_alloc ?_ _)); exact BK116.out)) : gb116 ≠ gb156))
                           have n13_ := Aside0.mk ((by rw [hg]; exact Nat.ne_of_gt (blk_lt (g := gb116) (o := .cells #[.bool t107, .bool t108, .int .i64 t109, .int .i64 t110, .int .i64 t111] 28 (0, 0)) (by (with_reducible repeat (first | refine blk_drewN ?_ _ | refine blk_drew ?_ | refine blk_alloc ?_ _)); exact BK116.out)) : gb156 ≠ gb116))
                           have n14_ := Aside0.mk ((by rw [hg]; exact Nat.ne_of_lt (blk_lt (g := gb136) (o := .cells #[.bool false, .bool t128, .int .i64 t129, .int .i64 t130, .int .i64 t131] 28 (0, 0)) (by (with_reducible repeat (first | refine blk_drewN ?_ _ | refine blk_drew ?_ | refine blk_alloc ?_ _)); exact BK136.out)) : gb136 ≠ gb156))
                           have n15_ := Aside0.mk ((by rw [hg]; exact Nat.ne_of_gt (blk_lt (g := gb136) (o := .cells #[.bool false, .bool t128, .int .i64 t129, .int .i64 t130, .int .i64 t131] 28 (0, 0)) (by (with_reducible repeat (first | refine blk_drewN ?_ _ | refine blk_drew ?_ | refine blk_alloc ?_ _)); exact BK136.out)) : gb156 ≠ gb136))
                           clear HO_15
                           clear HO146
                           clear HO154
                           clear BK101
                           clear BK116
                           clear BK136
                           clear HB
                           have HO_15 := n0_
                           have HO146 := n1_
                           have HO154 := n2_
                           have BK101 := n3_
                           have BK116 := n4_
                           have BK136 := n5_
                           have HB := n6_
                           have BK156 := n7_
                           have GW156 := n8_
                           have GE156 := n9_
                           have NB101_156 := n10_
                           have NB156_101 := n11_
                           have NB116_156 := n12_
                           have NB156_116 := n13_
                           have NB136_156 := n14_
                           have NB156_136 := n15_
                           clear n0_ n1_ n2_ n3_ n4_ n5_ n6_ n7_ n8_ n9_ n10_ n11_ n12_ n13_ n14_ n15_
                           clear hb hbox hg
                           refine hK.out _ _ ⟨(blk_cell BK101.out 0).trans rfl, (blk_cell BK101.out 1).trans rfl, (blk_cell BK101.out 2).trans rfl⟩ (fun hHeld => ?_)
                           clear hK K
                           refine norm_ (a' := ?_) ?_ ?_
                           rotate_left
                           ·show Act.put _ (some 18) _ = _
                            simp only [Act.put, List.setIfInBounds_toArray, List.set_cons_zero, List.set_cons_succ, i64_w, i32_w]
                            rfl
                           exact norm_ (by first | (simp only [putAll, Act.put, List.setIfInBounds_toArray, List.set_cons_zero, List.set_cons_succ]; done) | (simp only [putAll, Act.put, List.setIfInBounds_toArray, List.set_cons_zero, List.set_cons_succ]; rfl)) (hJ1_3_6_7_12 (v139, v142, v145, v153, gb156) _ ⟨hHeld, (by (with_reducible repeat (first | apply Kd.R_alloc | apply Kd.R_drewN | apply Kd.R_drew)); exact HO146.out), (by (with_reducible repeat (first | apply Kd.R_alloc | apply Kd.R_drewN | apply Kd.R_drew)); exact HO154.out), (by (with_reducible repeat (first | apply Kd.R_alloc | apply Kd.R_drewN | apply Kd.R_drew)); exact HO_15.out), (by (with_reducible repeat (first | refine blk_drewN ?_ _ | refine blk_drew ?_ | refine blk_alloc ?_ _)); exact BK101.out), (by (with_reducible repeat (first | refine blk_drewN ?_ _ | refine blk_drew ?_ | refine blk_alloc ?_ _)); exact BK116.out), (by (with_reducible repeat (first | refine blk_drewN ?_ _ | refine blk_drew ?_ | refine blk_alloc ?_ _)); exact BK136.out), (by (with_reducible repeat (first | refine blk_drewN ?_ _ | refine blk_drew ?_ | refine blk_alloc ?_ _)); exact BK156.out), GW156.out, GE156.out, NB101_156.out, NB156_101.out, NB116_156.out, NB156_116.out, NB136_156.out, NB156_136.out, (by repeat (first | (with_reducible first | exact HB.out | apply below_alloc | apply pw_below_drewN | apply below_drew1 | refine below_set ?_ GE101.out | refine below_set ?_ GE116.out | refine below_set ?_ GE136.out | refine below_set ?_ GE156.out) | exact HB.out))⟩)
                         rintro ⟨v139, v142, v145, v153, gb156⟩ w85 ⟨hS_, h0_, h1_, h2_, h3_, h4_, h5_, h6_, h7_, h8_, h9_, h10_, h11_, h12_, h13_, h14_, h15_⟩
                         have n0_ : Aside0 (Kd.R Kd.bool 4 w85 w.heap.size (fun _ => True) v145 y144) := ⟨h0_⟩
                         have n1_ : Aside0 (Kd.R (Kd.int .i64) 3 w85 w.heap.size (fun k_ => some k_ ≠ (.slice Ao76 t132.length co76 : Value).ownBlock) v153 t152) := ⟨h1_⟩
                         have n2_ : Aside0 (Kd.R (Kd.int .i64) 3 w85 w.heap.size (fun k_ => some k_ ≠ (v153 : Value).ownBlock) (.slice Ao76 t132.length co76) t132) := ⟨h2_⟩
                         have n3_ : Aside0 (w85.heap[gb101]? = some (.cells #[.int .i64 a0_0, .int .i64 a0_1, .int .i64 a0_2] 23 (0, 0))) := ⟨h3_⟩
                         have n4_ : Aside0 (w85.heap[gb116]? = some (.cells #[.bool t107, .bool t108, .int .i64 t109, .int .i64 t110, .int .i64 t111] 28 (0, 0))) := ⟨h4_⟩
                         have n5_ : Aside0 (w85.heap[gb136]? = some (.cells #[.bool false, .bool t128, .int .i64 t129, .int .i64 t130, .int .i64 t131] 28 (0, 0))) := ⟨h5_⟩
                         have n6_ : Aside0 (w85.heap[gb156]? = some (.cells #[.bool false, .bool false, .int .i64 0, .int .i64 0, .int .i64 0] 28 (0, 0))) := ⟨h6_⟩
                         have n7_ : Aside0 (w.heap.size ≤ gb156) := ⟨h7_⟩
                         have n8_ : Aside0 (w.heap.size ≤ gb156) := ⟨h8_⟩
                         have n9_ : Aside0 (gb101 ≠ gb156) := ⟨h9_⟩
                         have n10_ : Aside0 (gb156 ≠ gb101) := ⟨h10_⟩
                         have n11_ : Aside0 (gb116 ≠ gb156) := ⟨h11_⟩
                         have n12_ : Aside0 (gb156 ≠ gb116) := ⟨h12_⟩
                         have n13_ : Aside0 (gb136 ≠ gb156) := ⟨h13_⟩
                         have n14_ : Aside0 (gb156 ≠ gb136) := ⟨h14_⟩
                         have n15_ : Aside0 (Below w.heap.size w w85) := ⟨h15_⟩
                         clear HO_15
                         clear BK101
                         clear BK116
                         clear BK136
                         clear HB
                         clear h0_ h1_ h2_ h3_ h4_ h5_ h6_ h7_ h8_ h9_ h10_ h11_ h12_ h13_ h14_ h15_
                         have HO146 := n0_
                         have HO154 := n1_
                         have HO_15 := n2_
                         have BK101 := n3_
                         have BK116 := n4_
                         have BK136 := n5_
                         have BK156 := n6_
                         have GW156 := n7_
                         have GE156 := n8_
                         have NB101_156 := n9_
                         have NB156_101 := n10_
                         have NB116_156 := n11_
                         have NB156_116 := n12_
                         have NB136_156 := n13_
                         have NB156_136 := n14_
                         have HB := n15_
                         clear n0_ n1_ n2_ n3_ n4_ n5_ n6_ n7_ n8_ n9_ n10_ n11_ n12_ n13_ n14_ n15_
                         have hHeld : w85.cell? ⟨gb101, 0, none⟩ = some (.int .i64 a0_0) ∧ w85.cell? ⟨gb101, 1, none⟩ = some (.int .i64 a0_1) ∧ w85.cell? ⟨gb101, 2, none⟩ = some (.int .i64 a0_2) := hS_
                         refine norm_ (a' := ?_) ?_ ?_
                         rotate_left
                         ·simp only [putAll, Act.put, List.setIfInBounds_toArray, List.set_cons_zero, List.set_cons_succ]
                          rfl
                         refine one_ (i := 13) (N := none) #[true, true, true, true, true, true, true, true, true, true, true, true, true, true, false, false] rfl rfl (one_of HT_.out (by kernel_rfl)) (by decide) (fun K hK => ?_)
                         have hs86 : w85.cell? ⟨gb156, 0, none⟩ = some (.bool false) := (blk_cell BK156.out 0).trans rfl
                         have hfs86 := blk_frozen BK156.out 0
                         have hns86_0 := NB101_156.out
                         have hns86_1 := NB116_156.out
                         have hns86_2 := NB136_156.out
                         have hms86_0 := NB156_101.out
                         have hms86_1 := NB156_116.out
                         have hms86_2 := NB156_136.out
                         have hs87 : w85.cell? ⟨gb156, 1, none⟩ = some (.bool false) := (blk_cell BK156.out 1).trans rfl
                         have hfs87 := blk_frozen BK156.out 1
                         have hns87_0 := NB101_156.out
                         have hns87_1 := NB116_156.out
                         have hns87_2 := NB136_156.out
                         have hms87_0 := NB156_101.out
                         have hms87_1 := NB156_116.out
                         have hms87_2 := NB156_136.out
                         have hs88 : w85.cell? ⟨gb156, 2, none⟩ = some (.int .i64 0) := (blk_cell BK156.out 2).trans rfl
                         have hfs88 := blk_frozen BK156.out 2
                         have hns88_0 := NB101_156.out
                         have hns88_1 := NB116_156.out
                         have hns88_2 := NB136_156.out
                         have hms88_0 := NB156_101.out
                         have hms88_1 := NB156_116.out
                         have hms88_2 := NB156_136.out
                         have hs89 : w85.cell? ⟨gb156, 3, none⟩ = some (.int .i64 0) := (blk_cell BK156.out 3).trans rfl
                         have hfs89 := blk_frozen BK156.out 3
                         have hns89_0 := NB101_156.out
                         have hns89_1 := NB116_156.out
                         have hns89_2 := NB136_156.out
                         have hms89_0 := NB156_101.out
                         have hms89_1 := NB156_116.out
                         have hms89_2 := NB156_136.out
                         have hs90 : w85.cell? ⟨gb156, 4, none⟩ = some (.int .i64 0) := (blk_cell BK156.out 4).trans rfl
                         have hfs90 := blk_frozen BK156.out 4
                         have hns90_0 := NB101_156.out
                         have hns90_1 := NB116_156.out
                         have hns90_2 := NB136_156.out
                         have hms90_0 := NB156_101.out
                         have hms90_1 := NB156_116.out
                         have hms90_2 := NB156_136.out
                         refine skip_ (w1 := ?_) (by rfl) rfl ?_ ?_
                         rotate_left
                         ·go_simp
                          rfl
                         refine hK.out _ _ ⟨((cell_far (p := ⟨gb156, _, none⟩) NB101_156.out _).trans (((cell_far (p := ⟨gb156, _, none⟩) NB101_156.out _).trans (((cell_far (p := ⟨gb156, _, none⟩) NB101_156.out _).trans (((cell_far (p := ⟨gb156, _, none⟩) NB101_156.out _).trans (((cell_far (p := ⟨gb156, _, none⟩) NB101_156.out _).trans (hHeld.1)))))))))), ((cell_far (p := ⟨gb156, _, none⟩) NB101_156.out _).trans (((cell_far (p := ⟨gb156, _, none⟩) NB101_156.out _).trans (((cell_far (p := ⟨gb156, _, none⟩) NB101_156.out _).trans (((cell_far (p := ⟨gb156, _, none⟩) NB101_156.out _).trans (((cell_far (p := ⟨gb156, _, none⟩) NB101_156.out _).trans (hHeld.2.1)))))))))), ((cell_far (p := ⟨gb156, _, none⟩) NB101_156.out _).trans (((cell_far (p := ⟨gb156, _, none⟩) NB101_156.out _).trans (((cell_far (p := ⟨gb156, _, none⟩) NB101_156.out _).trans (((cell_far (p := ⟨gb156, _, none⟩) NB101_156.out _).trans (((cell_far (p := ⟨gb156, _, none⟩) NB101_156.out _).trans (hHeld.2.2))))))))))⟩ (fun hHeld => ?_)
                         clear hK K
                         refine pure_ (i := 14) (N := some 19) (v := ?_) (a' := ?_) #[true, true, true, true, true, true, true, true, true, true, true, true, true, true, true, false] rfl rfl (any_of HT_.out (by kernel_rfl)) (fun _ _ _ h => h) (Or.inl ⟨by rfl, ?_⟩) ?_ ?_
                         rotate_left
                         ·intro w'
                          go_simp
                          with_reducible rfl
                         rotate_left
                         ·simp only [Act.put, List.setIfInBounds_toArray, List.set_cons_zero, List.set_cons_succ, i64_w, i32_w]
                          rfl
                         refine pure_ (i := 15) (N := some 20) (v := ?_) (a' := ?_) #[true, true, true, true, true, true, true, true, true, true, true, true, true, true, true, true] rfl rfl (any_of HT_.out (by kernel_rfl)) (fun _ _ _ h => h) (Or.inl ⟨by rfl, ?_⟩) ?_ ?_
                         rotate_left
                         ·intro w'
                          go_simp
                          with_reducible rfl
                         rotate_left
                         ·simp only [Act.put, List.setIfInBounds_toArray, List.set_cons_zero, List.set_cons_succ, i64_w, i32_w]
                          rfl
                         refine done_ (done_of HT_.out (by kernel_rfl)) ?_
                         have H := HZ_.out
                         clear HZ_
                         by_cases c75 : t148 = true
                         ·subst c75
                          have H1 : (some true) = some r := by rw [if_pos rfl] at H; exact H
                          clear H
                          have H := H1
                          clear H1
                          obtain rfl := Option.some.inj H
                          try go_wp2_with (first | ((with_reducible refine gate_callee (f := 16) rfl ?_); refine goesL_ (some 100) rfl rfl Try.func16 (by kernel_rfl) rfl #[] rfl (by (try simp only [List.map_toArray, List.map_cons, List.map_nil]); first | done | rfl | (simp only [List.length_drop, List.length_take]; rfl)) ?_; (with_reducible refine (rudderlaw15_alive.calls k4  true _ A68.out).mono ?_); rintro e w91 ⟨rfl, hb⟩; refine ⟨_, rfl, ?_⟩; have n0_ := Aside0.mk (Kd.R_below (by (with_reducible repeat (first | apply Kd.R_alloc | apply Kd.R_drewN | apply Kd.R_drew)); exact (Kd.R_mono (Kd.R_far (p := ⟨gb156, 4, none⟩) (Kd.R_far (p := ⟨gb156, 3, none⟩) (Kd.R_far (p := ⟨gb156, 2, none⟩) (Kd.R_far (p := ⟨gb156, 1, none⟩) (Kd.R_far (p := ⟨gb156, 0, none⟩) (Kd.R_types HO_15.out BK156.out (by decide)) (fun _ hk => hk.2) (.bool t147)) (fun _ hk => hk.2) (.bool true)) (fun _ hk => hk.2) (.int .i64 t149)) (fun _ hk => hk.2) (.int .i64 t150)) (fun _ hk => hk.2) (.int .i64 t151)) (fun _ h_ => h_.1))) hb); have n1_ := Aside0.mk (Kd.R_below (by (with_reducible repeat (first | apply Kd.R_alloc | apply Kd.R_drewN | apply Kd.R_drew)); exact (Kd.R_mono (Kd.R_far (p := ⟨gb156, 4, none⟩) (Kd.R_far (p := ⟨gb156, 3, none⟩) (Kd.R_far (p := ⟨gb156, 2, none⟩) (Kd.R_far (p := ⟨gb156, 1, none⟩) (Kd.R_far (p := ⟨gb156, 0, none⟩) (Kd.R_types HO146.out BK156.out (by decide)) (fun _ hk => hk.2) (.bool t147)) (fun _ hk => hk.2) (.bool true)) (fun _ hk => hk.2) (.int .i64 t149)) (fun _ hk => hk.2) (.int .i64 t150)) (fun _ hk => hk.2) (.int .i64 t151)) (fun _ h_ => h_.1))) hb); have n2_ := Aside0.mk (Kd.R_below (by (with_reducible repeat (first | apply Kd.R_alloc | apply Kd.R_drewN | apply Kd.R_drew)); exact (Kd.R_mono (Kd.R_far (p := ⟨gb156, 4, none⟩) (Kd.R_far (p := ⟨gb156, 3, none⟩) (Kd.R_far (p := ⟨gb156, 2, none⟩) (Kd.R_far (p := ⟨gb156, 1, none⟩) (Kd.R_far (p := ⟨gb156, 0, none⟩) (Kd.R_types HO154.out BK156.out (by decide)) (fun _ hk => hk.2) (.bool t147)) (fun _ hk => hk.2) (.bool true)) (fun _ hk => hk.2) (.int .i64 t149)) (fun _ hk => hk.2) (.int .i64 t150)) (fun _ hk => hk.2) (.int .i64 t151)) (fun _ h_ => h_.1))) hb); have n3_ := Aside0.mk (blk_below (g := gb101) (o := .cells #[.int .i64 a0_0, .int .i64 a0_1, .int .i64 a0_2] 23 (0, 0)) (by (with_reducible repeat (first | refine blk_drewN ?_ _ | refine blk_drew ?_ | refine blk_alloc ?_ _)); refine blk_far ?_ NB101_156.out _; (with_reducible repeat (first | refine blk_drewN ?_ _ | refine blk_drew ?_ | refine blk_alloc ?_ _)); refine blk_far ?_ NB101_156.out _; (with_reducible repeat (first | refine blk_drewN ?_ _ | refine blk_drew ?_ | refine blk_alloc ?_ _)); refine blk_far ?_ NB101_156.out _; (with_reducible repeat (first | refine blk_drewN ?_ _ | refine blk_drew ?_ | refine blk_alloc ?_ _)); refine blk_far ?_ NB101_156.out _; (with_reducible repeat (first | refine blk_drewN ?_ _ | refine blk_drew ?_ | refine blk_alloc ?_ _)); refine blk_far ?_ NB101_156.out _; (with_reducible repeat (first | refine blk_drewN ?_ _ | refine blk_drew ?_ | refine blk_alloc ?_ _)); exact BK101.out) hb); have n4_ := Aside0.mk (blk_below (g := gb116) (o := .cells #[.bool t107, .bool t108, .int .i64 t109, .int .i64 t110, .int .i64 t111] 28 (0, 0)) (by (with_reducible repeat (first | refine blk_drewN ?_ _ | refine blk_drew ?_ | refine blk_alloc ?_ _)); refine blk_far ?_ NB116_156.out _; (with_reducible repeat (first | refine blk_drewN ?_ _ | refine blk_drew ?_ | refine blk_alloc ?_ _)); refine blk_far ?_ NB116_156.out _; (with_reducible repeat (first | refine blk_drewN ?_ _ | refine blk_drew ?_ | refine blk_alloc ?_ _)); refine blk_far ?_ NB116_156.out _; (with_reducible repeat (first | refine blk_drewN ?_ _ | refine blk_drew ?_ | refine blk_alloc ?_ _)); refine blk_far ?_ NB116_156.out _; (with_reducible repeat (first | refine blk_drewN ?_ _ | refine blk_drew ?_ | refine blk_alloc ?_ _)); refine blk_far ?_ NB116_156.out _; (with_reducible repeat (first | refine blk_drewN ?_ _ | refine blk_drew ?_ | refine blk_alloc ?_ _)); exact BK116.out) hb); have n5_ := Aside0.mk (blk_below (g := gb136) (o := .cells #[.bool false, .bool t128, .int .i64 t129, .int .i64 t130, .int .i64 t131] 28 (0, 0)) (by (with_reducible repeat (first | refine blk_drewN ?_ _ | refine blk_drew ?_ | refine blk_alloc ?_ _)); refine blk_far ?_ NB136_156.out _; (with_reducible repeat (first | refine blk_drewN ?_ _ | refine blk_drew ?_ | refine blk_alloc ?_ _)); refine blk_far ?_ NB136_156.out _; (with_reducible repeat (first | refine blk_drewN ?_ _ | refine blk_drew ?_ | refine blk_alloc ?_ _)); refine blk_far ?_ NB136_156.out _; (with_reducible repeat (first | refine blk_drewN ?_ _ | refine blk_drew ?_ | refine blk_alloc ?_ _)); refine blk_far ?_ NB136_156.out _; (with_reducible repeat (first | refine blk_drewN ?_ _ | refine blk_drew ?_ | refine blk_alloc ?_ _)); refine blk_far ?_ NB136_156.out _; (with_reducible repeat (first | refine blk_drewN ?_ _ | refine blk_drew ?_ | refine blk_alloc ?_ _)); exact BK136.out) hb); have n6_ := Aside0.mk (blk_below (g := gb156) (o := .cells #[.bool t147, .bool true, .int .i64 t149, .int .i64 t150, .int .i64 t151] 28 (0, 0)) (by (with_reducible repeat (first | refine blk_drewN ?_ _ | refine blk_drew ?_ | refine blk_alloc ?_ _)); refine blk_put (cs := #[.bool t147, .bool true, .int .i64 t149, .int .i64 t150, .int .i64 0]) ?_ 4 _ rfl; (with_reducible repeat (first | refine blk_drewN ?_ _ | refine blk_drew ?_ | refine blk_alloc ?_ _)); refine blk_put (cs := #[.bool t147, .bool true, .int .i64 t149, .int .i64 0, .int .i64 0]) ?_ 3 _ rfl; (with_reducible repeat (first | refine blk_drewN ?_ _ | refine blk_drew ?_ | refine blk_alloc ?_ _)); refine blk_put (cs := #[.bool t147, .bool true, .int .i64 0, .int .i64 0, .int .i64 0]) ?_ 2 _ rfl; (with_reducible repeat (first | refine blk_drewN ?_ _ | refine blk_drew ?_ | refine blk_alloc ?_ _)); refine blk_put (cs := #[.bool t147, .bool false, .int .i64 0, .int .i64 0, .int .i64 0]) ?_ 1 _ rfl; (with_reducible repeat (first | refine blk_drewN ?_ _ | refine blk_drew ?_ | refine blk_alloc ?_ _)); refine blk_put (cs := #[.bool false, .bool false, .int .i64 0, .int .i64 0, .int .i64 0]) ?_ 0 _ rfl; (with_reducible repeat (first | refine blk_drewN ?_ _ | refine blk_drew ?_ | refine blk_alloc ?_ _)); exact BK156.out) hb); have n7_ := Aside0.mk (below_step (by repeat (first | (with_reducible first | exact HB.out | apply below_alloc | apply pw_below_drewN | apply below_drew1 | refine below_set ?_ GE101.out | refine below_set ?_ GE116.out | refine below_set ?_ GE136.out | refine below_set ?_ GE156.out) | exact HB.out)) hb); clear HO_15; clear HO146; clear HO154; clear BK101; clear BK116; clear BK136; clear BK156; clear HB; have HO_15 := n0_; have HO146 := n1_; have HO154 := n2_; have BK101 := n3_; have BK116 := n4_; have BK136 := n5_; have BK156 := n6_; have HB := n7_; clear n0_ n1_ n2_ n3_ n4_ n5_ n6_ n7_; (try clear hb); (try clear hb2); (try clear hk); (try clear hi); have hnb92 := NB136_101.out; have hnc92 := NB101_136.out; have hnb93 := NB136_116.out; have hnc93 := NB116_136.out; have hnb94 := NB136_156.out; have hnc94 := NB156_136.out; have hcz95_0 : w91.cell? ⟨gb136, 0, none⟩ = some (.bool false) := (blk_cell BK136.out 0).trans rfl; have hcz95_1 : w91.cell? ⟨gb136, 1, none⟩ = some (.bool t128) := (blk_cell BK136.out 1).trans rfl; have hcz95_2 : w91.cell? ⟨gb136, 2, none⟩ = some (.int .i64 t129) := (blk_cell BK136.out 2).trans rfl; have hcz95_3 : w91.cell? ⟨gb136, 3, none⟩ = some (.int .i64 t130) := (blk_cell BK136.out 3).trans rfl; have hcz95_4 : w91.cell? ⟨gb136, 4, none⟩ = some (.int .i64 t131) := (blk_cell BK136.out 4).trans rfl; have hfz95_0 := blk_frozen BK136.out 0; have hfz95_1 := blk_frozen BK136.out 1; have hfz95_2 := blk_frozen BK136.out 2; have hfz95_3 := blk_frozen BK136.out 3; have hfz95_4 := blk_frozen BK136.out 4; have hnb96 := NB156_101.out; have hnc96 := NB101_156.out; have hnb97 := NB156_116.out; have hnc97 := NB116_156.out; have hcz98_0 : w91.cell? ⟨gb156, 0, none⟩ = some (.bool t147) := (blk_cell BK156.out 0).trans rfl; have hcz98_1 : w91.cell? ⟨gb156, 1, none⟩ = some (.bool true) := (blk_cell BK156.out 1).trans rfl; have hcz98_2 : w91.cell? ⟨gb156, 2, none⟩ = some (.int .i64 t149) := (blk_cell BK156.out 2).trans rfl; have hcz98_3 : w91.cell? ⟨gb156, 3, none⟩ = some (.int .i64 t150) := (blk_cell BK156.out 3).trans rfl; have hcz98_4 : w91.cell? ⟨gb156, 4, none⟩ = some (.int .i64 t151) := (blk_cell BK156.out 4).trans rfl; have hfz98_0 := blk_frozen BK156.out 0; have hfz98_1 := blk_frozen BK156.out 1; have hfz98_2 := blk_frozen BK156.out 2; have hfz98_3 := blk_frozen BK156.out 3; have hfz98_4 := blk_frozen BK156.out 4))
                          go_ret
                          exact ⟨by first | rfl | (simp [errW_none, errW_some] <;> rfl) | (simp only [← hji15]; first | rfl | (simp [errW_none, errW_some] <;> rfl)) | (simp [*, errW_none, errW_some] <;> rfl), by repeat (first | (with_reducible first | exact HB.out | apply below_alloc | apply pw_below_drewN | apply below_drew1 | refine below_set ?_ GE101.out | refine below_set ?_ GE116.out | refine below_set ?_ GE136.out | refine below_set ?_ GE156.out) | exact HB.out)⟩
                         ·replace c75 := Bool.eq_false_iff.mpr c75
                          subst c75
                          have H1 : (if t147 = true then (none) else (some (t149 == 0))) = some r := by rw [if_neg (show ¬ (false = true) by decide)] at H; exact H
                          clear H
                          have H := H1
                          clear H1
                          by_cases c99 : t147 = true
                          ·subst c99
                           have H1 : (none) = some r := by rw [if_pos rfl] at H; exact H
                           clear H
                           have H := H1
                           clear H1
                           exact absurd H (by simp)
                          ·replace c99 := Bool.eq_false_iff.mpr c99
                           subst c99
                           have H1 : (some (t149 == 0)) = some r := by rw [if_neg (show ¬ (false = true) by decide)] at H; exact H
                           clear H
                           have H := H1
                           clear H1
                           obtain rfl := Option.some.inj H
                           try go_wp2_with (first | ((with_reducible refine gate_callee (f := 16) rfl ?_); refine goesL_ (some 100) rfl rfl Try.func16 (by kernel_rfl) rfl #[] rfl (by (try simp only [List.map_toArray, List.map_cons, List.map_nil]); first | done | rfl | (simp only [List.length_drop, List.length_take]; rfl)) ?_; (with_reducible refine (rudderlaw15_alive.calls k4  true _ A68.out).mono ?_); rintro e w115 ⟨rfl, hb⟩; refine ⟨_, rfl, ?_⟩; have n0_ := Aside0.mk (Kd.R_below (by (with_reducible repeat (first | apply Kd.R_alloc | apply Kd.R_drewN | apply Kd.R_drew)); exact (Kd.R_mono (Kd.R_far (p := ⟨gb156, 4, none⟩) (Kd.R_far (p := ⟨gb156, 3, none⟩) (Kd.R_far (p := ⟨gb156, 2, none⟩) (Kd.R_far (p := ⟨gb156, 1, none⟩) (Kd.R_far (p := ⟨gb156, 0, none⟩) (Kd.R_types HO_15.out BK156.out (by decide)) (fun _ hk => hk.2) (.bool false)) (fun _ hk => hk.2) (.bool false)) (fun _ hk => hk.2) (.int .i64 t149)) (fun _ hk => hk.2) (.int .i64 t150)) (fun _ hk => hk.2) (.int .i64 t151)) (fun _ h_ => h_.1))) hb); have n1_ := Aside0.mk (Kd.R_below (by (with_reducible repeat (first | apply Kd.R_alloc | apply Kd.R_drewN | apply Kd.R_drew)); exact (Kd.R_mono (Kd.R_far (p := ⟨gb156, 4, none⟩) (Kd.R_far (p := ⟨gb156, 3, none⟩) (Kd.R_far (p := ⟨gb156, 2, none⟩) (Kd.R_far (p := ⟨gb156, 1, none⟩) (Kd.R_far (p := ⟨gb156, 0, none⟩) (Kd.R_types HO146.out BK156.out (by decide)) (fun _ hk => hk.2) (.bool false)) (fun _ hk => hk.2) (.bool false)) (fun _ hk => hk.2) (.int .i64 t149)) (fun _ hk => hk.2) (.int .i64 t150)) (fun _ hk => hk.2) (.int .i64 t151)) (fun _ h_ => h_.1))) hb); have n2_ := Aside0.mk (Kd.R_below (by (with_reducible repeat (first | apply Kd.R_alloc | apply Kd.R_drewN | apply Kd.R_drew)); exact (Kd.R_mono (Kd.R_far (p := ⟨gb156, 4, none⟩) (Kd.R_far (p := ⟨gb156, 3, none⟩) (Kd.R_far (p := ⟨gb156, 2, none⟩) (Kd.R_far (p := ⟨gb156, 1, none⟩) (Kd.R_far (p := ⟨gb156, 0, none⟩) (Kd.R_types HO154.out BK156.out (by decide)) (fun _ hk => hk.2) (.bool false)) (fun _ hk => hk.2) (.bool false)) (fun _ hk => hk.2) (.int .i64 t149)) (fun _ hk => hk.2) (.int .i64 t150)) (fun _ hk => hk.2) (.int .i64 t151)) (fun _ h_ => h_.1))) hb); have n3_ := Aside0.mk (blk_below (g := gb101) (o := .cells #[.int .i64 a0_0, .int .i64 a0_1, .int .i64 a0_2] 23 (0, 0)) (by (with_reducible repeat (first | refine blk_drewN ?_ _ | refine blk_drew ?_ | refine blk_alloc ?_ _)); refine blk_far ?_ NB101_156.out _; (with_reducible repeat (first | refine blk_drewN ?_ _ | refine blk_drew ?_ | refine blk_alloc ?_ _)); refine blk_far ?_ NB101_156.out _; (with_reducible repeat (first | refine blk_drewN ?_ _ | refine blk_drew ?_ | refine blk_alloc ?_ _)); refine blk_far ?_ NB101_156.out _; (with_reducible repeat (first | refine blk_drewN ?_ _ | refine blk_drew ?_ | refine blk_alloc ?_ _)); refine blk_far ?_ NB101_156.out _; (with_reducible repeat (first | refine blk_drewN ?_ _ | refine blk_drew ?_ | refine blk_alloc ?_ _)); refine blk_far ?_ NB101_156.out _; (with_reducible repeat (first | refine blk_drewN ?_ _ | refine blk_drew ?_ | refine blk_alloc ?_ _)); exact BK101.out) hb); have n4_ := Aside0.mk (blk_below (g := gb116) (o := .cells #[.bool t107, .bool t108, .int .i64 t109, .int .i64 t110, .int .i64 t111] 28 (0, 0)) (by (with_reducible repeat (first | refine blk_drewN ?_ _ | refine blk_drew ?_ | refine blk_alloc ?_ _)); refine blk_far ?_ NB116_156.out _; (with_reducible repeat (first | refine blk_drewN ?_ _ | refine blk_drew ?_ | refine blk_alloc ?_ _)); refine blk_far ?_ NB116_156.out _; (with_reducible repeat (first | refine blk_drewN ?_ _ | refine blk_drew ?_ | refine blk_alloc ?_ _)); refine blk_far ?_ NB116_156.out _; (with_reducible repeat (first | refine blk_drewN ?_ _ | refine blk_drew ?_ | refine blk_alloc ?_ _)); refine blk_far ?_ NB116_156.out _; (with_reducible repeat (first | refine blk_drewN ?_ _ | refine blk_drew ?_ | refine blk_alloc ?_ _)); refine blk_far ?_ NB116_156.out _; (with_reducible repeat (first | refine blk_drewN ?_ _ | refine blk_drew ?_ | refine blk_alloc ?_ _)); exact BK116.out) hb); have n5_ := Aside0.mk (blk_below (g := gb136) (o := .cells #[.bool false, .bool t128, .int .i64 t129, .int .i64 t130, .int .i64 t131] 28 (0, 0)) (by (with_reducible repeat (first | refine blk_drewN ?_ _ | refine blk_drew ?_ | refine blk_alloc ?_ _)); refine blk_far ?_ NB136_156.out _; (with_reducible repeat (first | refine blk_drewN ?_ _ | refine blk_drew ?_ | refine blk_alloc ?_ _)); refine blk_far ?_ NB136_156.out _; (with_reducible repeat (first | refine blk_drewN ?_ _ | refine blk_drew ?_ | refine blk_alloc ?_ _)); refine blk_far ?_ NB136_156.out _; (with_reducible repeat (first | refine blk_drewN ?_ _ | refine blk_drew ?_ | refine blk_alloc ?_ _)); refine blk_far ?_ NB136_156.out _; (with_reducible repeat (first | refine blk_drewN ?_ _ | refine blk_drew ?_ | refine blk_alloc ?_ _)); refine blk_far ?_ NB136_156.out _; (with_reducible repeat (first | refine blk_drewN ?_ _ | refine blk_drew ?_ | refine blk_alloc ?_ _)); exact BK136.out) hb); have n6_ := Aside0.mk (blk_below (g := gb156) (o := .cells #[.bool false, .bool false, .int .i64 t149, .int .i64 t150, .int .i64 t151] 28 (0, 0)) (by (with_reducible repeat (first | refine blk_drewN ?_ _ | refine blk_drew ?_ | refine blk_alloc ?_ _)); refine blk_put (cs := #[.bool false, .bool false, .int .i64 t149, .int .i64 t150, .int .i64 0]) ?_ 4 _ rfl; (with_reducible repeat (first | refine blk_drewN ?_ _ | refine blk_drew ?_ | refine blk_alloc ?_ _)); refine blk_put (cs := #[.bool false, .bool false, .int .i64 t149, .int .i64 0, .int .i64 0]) ?_ 3 _ rfl; (with_reducible repeat (first | refine blk_drewN ?_ _ | refine blk_drew ?_ | refine blk_alloc ?_ _)); refine blk_put (cs := #[.bool false, .bool false, .int .i64 0, .int .i64 0, .int .i64 0]) ?_ 2 _ rfl; (with_reducible repeat (first | refine blk_drewN ?_ _ | refine blk_drew ?_ | refine blk_alloc ?_ _)); refine blk_put (cs := #[.bool false, .bool false, .int .i64 0, .int .i64 0, .int .i64 0]) ?_ 1 _ rfl; (with_reducible repeat (first | refine blk_drewN ?_ _ | refine blk_drew ?_ | refine blk_alloc ?_ _)); refine blk_put (cs := #[.bool false, .bool false, .int .i64 0, .int .i64 0, .int .i64 0]) ?_ 0 _ rfl; (with_reducible repeat (first | refine blk_drewN ?_ _ | refine blk_drew ?_ | refine blk_alloc ?_ _)); exact BK156.out) hb); have n7_ := Aside0.mk (below_step (by repeat (first | (with_reducible first | exact HB.out | apply below_alloc | apply pw_below_drewN | apply below_drew1 | refine below_set ?_ GE101.out | refine below_set ?_ GE116.out | refine below_set ?_ GE136.out | refine below_set ?_ GE156.out) | exact HB.out)) hb); clear HO_15; clear HO146; clear HO154; clear BK101; clear BK116; clear BK136; clear BK156; clear HB; have HO_15 := n0_; have HO146 := n1_; have HO154 := n2_; have BK101 := n3_; have BK116 := n4_; have BK136 := n5_; have BK156 := n6_; have HB := n7_; clear n0_ n1_ n2_ n3_ n4_ n5_ n6_ n7_; (try clear hb); (try clear hb2); (try clear hk); (try clear hi); have hnb116 := NB136_101.out; have hnc116 := NB101_136.out; have hnb117 := NB136_116.out; have hnc117 := NB116_136.out; have hnb118 := NB136_156.out; have hnc118 := NB156_136.out; have hcz119_0 : w115.cell? ⟨gb136, 0, none⟩ = some (.bool false) := (blk_cell BK136.out 0).trans rfl; have hcz119_1 : w115.cell? ⟨gb136, 1, none⟩ = some (.bool t128) := (blk_cell BK136.out 1).trans rfl; have hcz119_2 : w115.cell? ⟨gb136, 2, none⟩ = some (.int .i64 t129) := (blk_cell BK136.out 2).trans rfl; have hcz119_3 : w115.cell? ⟨gb136, 3, none⟩ = some (.int .i64 t130) := (blk_cell BK136.out 3).trans rfl; have hcz119_4 : w115.cell? ⟨gb136, 4, none⟩ = some (.int .i64 t131) := (blk_cell BK136.out 4).trans rfl; have hfz119_0 := blk_frozen BK136.out 0; have hfz119_1 := blk_frozen BK136.out 1; have hfz119_2 := blk_frozen BK136.out 2; have hfz119_3 := blk_frozen BK136.out 3; have hfz119_4 := blk_frozen BK136.out 4; have hnb120 := NB156_101.out; have hnc120 := NB101_156.out; have hnb121 := NB156_116.out; have hnc121 := NB116_156.out; have hcz122_0 : w115.cell? ⟨gb156, 0, none⟩ = some (.bool false) := (blk_cell BK156.out 0).trans rfl; have hcz122_1 : w115.cell? ⟨gb156, 1, none⟩ = some (.bool false) := (blk_cell BK156.out 1).trans rfl; have hcz122_2 : w115.cell? ⟨gb156, 2, none⟩ = some (.int .i64 t149) := (blk_cell BK156.out 2).trans rfl; have hcz122_3 : w115.cell? ⟨gb156, 3, none⟩ = some (.int .i64 t150) := (blk_cell BK156.out 3).trans rfl; have hcz122_4 : w115.cell? ⟨gb156, 4, none⟩ = some (.int .i64 t151) := (blk_cell BK156.out 4).trans rfl; have hfz122_0 := blk_frozen BK156.out 0; have hfz122_1 := blk_frozen BK156.out 1; have hfz122_2 := blk_frozen BK156.out 2; have hfz122_3 := blk_frozen BK156.out 3; have hfz122_4 := blk_frozen BK156.out 4))
                           go_ret
                           exact ⟨by first | rfl | (simp [errW_none, errW_some] <;> rfl) | (simp only [← hji15]; first | rfl | (simp [errW_none, errW_some] <;> rfl)) | (simp [*, errW_none, errW_some] <;> rfl), by repeat (first | (with_reducible first | exact HB.out | apply below_alloc | apply pw_below_drewN | apply below_drew1 | refine below_set ?_ GE101.out | refine below_set ?_ GE116.out | refine below_set ?_ GE136.out | refine below_set ?_ GE156.out) | exact HB.out)⟩
                       ·rw [if_neg c74] at H
                        exact absurd H (by simp)
                      ·rw [if_neg c73] at H
                       exact absurd H (by simp)
                    ·rw [if_neg c71] at H
                     exact absurd H (by simp)
                   ·rw [if_neg c70] at H
                    exact absurd H (by simp)
                  ·replace c69 := Bool.eq_false_iff.mpr c69
                   subst c69
                   have H1 : (none) = some r := by rw [if_neg (show ¬ (false = true) by decide)] at H; exact H
                   clear H
                   have H := H1
                   clear H1
                   exact absurd H (by simp)
                 ·rw [if_neg c66] at H
                  exact absurd H (by simp)
                ·rw [if_neg c65] at H
                 exact absurd H (by simp)
               ·rw [if_neg c64] at H
                exact absurd H (by simp)
     ·rw [if_neg c17] at H
      exact absurd H (by simp)
    ·rw [if_neg c16] at H
     exact absurd H (by simp)

end Go.Proofs.Ytdhmefdnpiidbaa.PLatchUnharmed

/- For each Go function named below: a Lean function with the same answers, and the proof that the call answers so wherever that function does; written by a program of this session (myprint.py) out of the translation. -/
import Derived.Test.YtdhmefdnpiidbaaPVoteBoundedx0
import Derived.Test.YtdhmefdnpiidbaaSho
import Derived.Test.YtdhmefdnpiidbaaPVoteBoundedx3
namespace Go.Proofs.Ytdhmefdnpiidbaa.PVoteBounded
open Go.RowKit Go.Proofs.YtdhmefdnpiidbaaW.PrintWords Go.Proofs.YtdhmefdnpiidbaaW.PrintLast Go.Proofs.YtdhmefdnpiidbaaW.PrintMore Go.Proofs.Ytdhmefdnpiidbaa.Base Go.Proofs.Ytdhmefdnpiidbaa.Ord Go.Proofs.Ytdhmefdnpiidbaa.Vot Go.Proofs.Ytdhmefdnpiidbaa.PVoteMid Go.Proofs.Ytdhmefdnpiidbaa.Sho
attribute [local go_sem] max2_int min2_int max_two min_two max_three min_three max_four min_four   -- for this text's walks alone
set_option linter.unusedVariables false
set_option linter.unusedSimpArgs false
def rudderlaw12_VoteBounded.T8 : Bool × List (List Nat × List Nat) := (true, [([], []), ([], []), ([], []), ([], []), ([3, 2], [2, 3]), ([4], [4]), ([5], [5]), ([], []), ([7], [7]), ([8], [8]), ([9], [9]), ([6, 10], [6, 10]), ([1, 11], [1, 11]), ([12], [12]), ([0, 13], [0, 13]), ([14, 14, 0, 1, 2, 3, 4, 5, 6, 7, 8, 9, 10, 11, 12, 13, 14], [0, 14])])
def rudderlaw12_VoteBounded.B8 : List Nat := [0, 0, 0, 0, 12, 28, 60, 0, 128, 384, 896, 2044, 4094, 8190, 16383, 32767]
theorem rudderlaw12_VoteBounded.tab8 : rtab .any (opsOf Try.f5 8) = rudderlaw12_VoteBounded.T8 := by kernel_rfl
theorem rudderlaw12_VoteBounded.bits8 : waitsOk rudderlaw12_VoteBounded.T8.2 rudderlaw12_VoteBounded.B8 = true := by kernel_rfl
def rudderlaw12_VoteBounded.T12 : Bool × List (List Nat × List Nat) := (true, [([], []), ([], []), ([], []), ([1, 2], [1, 2]), ([0, 3], [0, 3]), ([], []), ([5], [5]), ([4, 6, 4], [4, 6]), ([], []), ([], []), ([8, 9], [8, 9]), ([7, 10, 7], [7, 10]), ([11, 11, 0, 1, 2, 3, 4, 5, 6, 7, 8, 9, 10, 11], [11])])
def rudderlaw12_VoteBounded.B12 : List Nat := [0, 0, 0, 6, 15, 0, 32, 127, 0, 0, 768, 2047, 4095]
theorem rudderlaw12_VoteBounded.tab12 : rtab .any (opsOf Try.f5 12) = rudderlaw12_VoteBounded.T12 := by kernel_rfl
theorem rudderlaw12_VoteBounded.bits12 : waitsOk rudderlaw12_VoteBounded.T12.2 rudderlaw12_VoteBounded.B12 = true := by kernel_rfl
def rudderlaw12_VoteBounded.T13 : Bool × List (List Nat × List Nat) := (true, [([], []), ([], []), ([], []), ([1, 2], [1, 2]), ([0, 3], [0, 3]), ([], []), ([5], [5]), ([6], [6]), ([7], [7]), ([8], [8]), ([9], [9]), ([10], [10]), ([4, 11, 4], [4, 11]), ([], []), ([], []), ([13, 14], [13, 14]), ([12, 15, 12], [12, 15]), ([16, 16, 0, 1, 2, 3, 4, 5, 6, 7, 8, 9, 10, 11, 12, 13, 14, 15, 16], [16])])
def rudderlaw12_VoteBounded.B13 : List Nat := [0, 0, 0, 6, 15, 0, 32, 96, 224, 480, 992, 2016, 4095, 0, 0, 24576, 65535, 131071]
theorem rudderlaw12_VoteBounded.tab13 : rtab .any (opsOf Try.f5 13) = rudderlaw12_VoteBounded.T13 := by kernel_rfl
theorem rudderlaw12_VoteBounded.bits13 : waitsOk rudderlaw12_VoteBounded.T13.2 rudderlaw12_VoteBounded.B13 = true := by kernel_rfl
abbrev O35 (x0 x1 x2 : Int) : Obj := .cells #[.int .i64 x0, .int .i64 x1, .int .i64 x2] 35 (0, 0)
abbrev O47 (x0 x1 x2 x3 x4 x5 x6 x7 x8 x9 x10 : Int) : Obj := .cells #[.int .i32 x0, .int .i32 x1, .int .u16 x2, .int .u16 x3, .int .u16 x4, .int .u16 x5, .int .u8 x6, .int .u8 x7, .int .u8 x8, .int .u8 x9, .int .u8 x10] 47 (0, 0)
set_option maxHeartbeats 8000000 in
set_option maxRecDepth 100000 in
theorem rudderlaw12_VoteBounded.calls (k : Nat) (a0_0 : Int) (a0_1 : Int) (a0_2 : Int) (a1_0 : Int) (a1_1 : Int) (a1_2 : Int) (a1_3 : Int) (a1_4 : Int) (a1_5 : Int) (a1_6 : Int) (a1_7 : Int) (a1_8 : Int) (a1_9 : Int) (a1_10 : Int) (r : Bool) (w : World) (h : rudderlaw12_VoteBounded.f k a0_0 a0_1 a0_2 a1_0 a1_1 a1_2 a1_3 a1_4 a1_5 a1_6 a1_7 a1_8 a1_9 a1_10 = some r) :
    Calls Try.prog 5 #[.agg #[.int .i64 a0_0, .int .i64 a0_1, .int .i64 a0_2], .agg #[.int .i32 a1_0, .int .i32 a1_1, .int .u16 a1_2, .int .u16 a1_3, .int .u16 a1_4, .int .u16 a1_5, .int .u8 a1_6, .int .u8 a1_7, .int .u8 a1_8, .int .u8 a1_9, .int .u8 a1_10]] w fun e w' => e = .returned (.bool r) ∧ Below w.heap.size w w' := by
 have hu35 := Try.underlying35
 have hu47 := Try.underlying47
 have HB := Aside0.mk (Below.refl w.heap.size w)
 have H : (rudderlaw12_VoteBounded.l0 k (wrap64 (a1_0)) (wrap64 ((wrap64 (a1_0)) + (wrap64 (a1_2)))) ([] : List Int) ([] : List Int) 0 a0_0 a0_1 a0_2 a1_0 a1_1 a1_2 a1_3 a1_4 a1_5 a1_6 a1_7 a1_8 a1_9 a1_10) = some r := h
 clear h
 have H' := Aside0.mk H
 clear H
 go_enter Try.func5, Try.ntmps5
 go_wp2_with (first | ((with_reducible refine gate_dst (N := 2) rfl ?_); refine box_event ?hg (N := 2) ?hd (cs := #[.int .i64 a0_0, .int .i64 a0_1, .int .i64 a0_2]) (t := 35) ?hr ?_; (case hd => rfl); (case hg => rfl); (case hr => first | (go_simp; done) | (go_simp; rfl)); intro gb101 hg w3 hbox hb; have n0_ := Aside0.mk (below_step (oB HB.out) hb); have n1_ := Aside0.mk (hbox); have n2_ := Aside0.mk ((by rw [hg]; exact (below_size (oB HB.out)) : w.heap.size ≤ gb101)); have n3_ := Aside0.mk ((by rw [hg]; exact (below_size (oB HB.out)) : w.heap.size ≤ gb101)); clear HB; have HB := n0_; have BK101 := n1_; have GW101 := n2_; have GE101 := n3_; clear n0_ n1_ n2_ n3_; clear hb hbox hg) | ((with_reducible refine gate_dst (N := 3) rfl ?_); refine box_event ?hg (N := 3) ?hd (cs := #[.int .i32 a1_0, .int .i32 a1_1, .int .u16 a1_2, .int .u16 a1_3, .int .u16 a1_4, .int .u16 a1_5, .int .u8 a1_6, .int .u8 a1_7, .int .u8 a1_8, .int .u8 a1_9, .int .u8 a1_10]) (t := 47) ?hr ?_; (case hd => rfl); (case hg => rfl); (case hr => first | (go_simp; done) | (go_simp; rfl)); intro gb102 hg w4 hbox hb; have n0_ := Aside0.mk (blk_below (g := gb101) (o := O35 a0_0 a0_1 a0_2) (oK BK101.out) hb); have n1_ := Aside0.mk (below_step (oB1 HB.out GE101.out) hb); have n2_ := Aside0.mk (hbox); have n3_ := Aside0.mk ((by rw [hg]; exact (below_size (oB1 HB.out GE101.out)) : w.heap.size ≤ gb102)); have n4_ := Aside0.mk ((by rw [hg]; exact (below_size (oB1 HB.out GE101.out)) : w.heap.size ≤ gb102)); have n5_ := Aside0.mk ((by rw [hg]; exact Nat.ne_of_lt (blk_lt (g := gb101) (o := O35 a0_0 a0_1 a0_2) (oK BK101.out)) : gb101 ≠ gb102)); have n6_ := Aside0.mk ((by rw [hg]; exact Nat.ne_of_gt (blk_lt (g := gb101) (o := O35 a0_0 a0_1 a0_2) (oK BK101.out)) : gb102 ≠ gb101)); clear BK101; clear HB; have BK101 := n0_; have HB := n1_; have BK102 := n2_; have GW102 := n3_; have GE102 := n4_; have NB101_102 := n5_; have NB102_101 := n6_; clear n0_ n1_ n2_ n3_ n4_ n5_ n6_; clear hb hbox hg; have hnb5 := NB102_101.out; have hnc5 := NB101_102.out; have hcz6_0 : w4.cell? ⟨gb102, 0, none⟩ = some (.int .i32 a1_0) := (blk_cell BK102.out 0).trans rfl; have hcz6_1 : w4.cell? ⟨gb102, 1, none⟩ = some (.int .i32 a1_1) := (blk_cell BK102.out 1).trans rfl; have hcz6_2 : w4.cell? ⟨gb102, 2, none⟩ = some (.int .u16 a1_2) := (blk_cell BK102.out 2).trans rfl; have hcz6_3 : w4.cell? ⟨gb102, 3, none⟩ = some (.int .u16 a1_3) := (blk_cell BK102.out 3).trans rfl; have hcz6_4 : w4.cell? ⟨gb102, 4, none⟩ = some (.int .u16 a1_4) := (blk_cell BK102.out 4).trans rfl; have hcz6_5 : w4.cell? ⟨gb102, 5, none⟩ = some (.int .u16 a1_5) := (blk_cell BK102.out 5).trans rfl; have hcz6_6 : w4.cell? ⟨gb102, 6, none⟩ = some (.int .u8 a1_6) := (blk_cell BK102.out 6).trans rfl; have hcz6_7 : w4.cell? ⟨gb102, 7, none⟩ = some (.int .u8 a1_7) := (blk_cell BK102.out 7).trans rfl; have hcz6_8 : w4.cell? ⟨gb102, 8, none⟩ = some (.int .u8 a1_8) := (blk_cell BK102.out 8).trans rfl; have hcz6_9 : w4.cell? ⟨gb102, 9, none⟩ = some (.int .u8 a1_9) := (blk_cell BK102.out 9).trans rfl; have hcz6_10 : w4.cell? ⟨gb102, 10, none⟩ = some (.int .u8 a1_10) := (blk_cell BK102.out 10).trans rfl; have hfz6_10 := blk_frozen BK102.out 10))
 go_loopg [7, 8, 9] k (fun kq v7 v8 v9 w' => ∃ (x7_1 : List Int) (x8_1 : List Int) (x9_1 : Int), v9 = .int .i64 x9_1 ∧ Aside0 (rudderlaw12_VoteBounded.l0 kq (wrap64 (a1_0)) (wrap64 ((wrap64 (a1_0)) + (wrap64 (a1_2)))) x7_1 x8_1 x9_1 a0_0 a0_1 a0_2 a1_0 a1_1 a1_2 a1_3 a1_4 a1_5 a1_6 a1_7 a1_8 a1_9 a1_10 = some r) ∧ Aside0 (kq ≤ k) ∧ Aside0 (Kd.R (Kd.int .i64) 3 w' w.heap.size (fun k_ => some k_ ≠ (v8 : Value).ownBlock) v7 x7_1) ∧ Aside0 (Kd.R (Kd.int .i64) 3 w' w.heap.size (fun k_ => some k_ ≠ (v7 : Value).ownBlock) v8 x8_1) ∧ Aside0 (w'.heap[gb101]? = some (.cells #[.int .i64 a0_0, .int .i64 a0_1, .int .i64 a0_2] 35 (0, 0))) ∧ Aside0 (w'.heap[gb102]? = some (.cells #[.int .i32 a1_0, .int .i32 a1_1, .int .u16 a1_2, .int .u16 a1_3, .int .u16 a1_4, .int .u16 a1_5, .int .u8 a1_6, .int .u8 a1_7, .int .u8 a1_8, .int .u8 a1_9, .int .u8 a1_10] 47 (0, 0))) ∧ Aside0 (Below w.heap.size w w'))
 case atStart => exact ⟨(([] : List Int)), (([] : List Int)), (0), (by first | rfl | (simp; done) | (simp [*]; done)), H', ⟨Nat.le_refl _⟩, ⟨by first | exact Kd.R_nil _ _ _ _ _ | exact Kd.N_nil _ _ _ _ _ | exact Kd.V_nil _ _ _ _ _ | exact Kd.Q_nil _ _ _ _ _ | exact Kd.S_nil _ _ _ _ _⟩, ⟨by first | exact Kd.R_nil _ _ _ _ _ | exact Kd.N_nil _ _ _ _ _ | exact Kd.V_nil _ _ _ _ _ | exact Kd.Q_nil _ _ _ _ _ | exact Kd.S_nil _ _ _ _ _⟩, ⟨oK BK101.out⟩, ⟨oK BK102.out⟩, ⟨oB2 HB.out GE101.out GE102.out⟩⟩
 case round =>
  clear H'
  try clear p2
  try clear c5
  try clear p6
  try clear hcz6_0
  try clear hcz6_1
  try clear hcz6_10
  try clear hcz6_2
  try clear hcz6_3
  try clear hcz6_4
  try clear hcz6_5
  try clear hcz6_6
  try clear hcz6_7
  try clear hcz6_8
  try clear hcz6_9
  obtain ⟨x7_1, x8_1, x9_1, rfl, HA, HK1, HO_7, HO_8, BK101, BK102, HB⟩ := hrel
  cases gk with
  | zero => exact absurd HA.out (by simp [rudderlaw12_VoteBounded.l0])
  | succ k1 =>
   have H := HA.out
   clear HA
   simp only [rudderlaw12_VoteBounded.l0] at H
   by_cases c7 : x9_1 < (wrap64 (2 + (wrap64 (Int.tmod a1_10 2))))
   ·rw [if_pos c7] at H
    have c7b0 : decide (x9_1 < (wrap64 (2 + (wrap64 (Int.tmod a1_10 2))))) = true := decide_eq_true c7
    clear c7
    by_cases c8 : 0 ≤ x9_1
    ·rw [if_pos c8] at H
     have c8b0 : decide (0 ≤ x9_1) = true := decide_eq_true c8
     clear c8
     by_cases c9 : x9_1 < 3
     ·rw [if_pos c9] at H
      have c9b0 : decide (x9_1 < 3) = true := decide_eq_true c9
      clear c9
      by_cases c10 : x9_1 = 0
      ·rw [if_pos c10] at H
       have c10b0 : Int.toNat x9_1 = 0 := by rw [c10]; rfl
       have c10b1 := eq_true (show 0 ≤ x9_1 by rw [c10]; decide)
       have c10b2 := eq_true (show x9_1 < 3 by rw [c10]; decide)
       have c10b3 := eq_true (show x9_1 < 4 by rw [c10]; decide)
       have c10w : wrap64 (x9_1 + 1) = x9_1 + 1 := by rw [c10]; unfold wrap64; decide
       clear c10
       by_cases c11 : (wrap64 ((wrap64 (a1_2)) + 1)) = 0
       ·rw [if_pos c11] at H
        exact absurd H (by simp)
       ·rw [if_neg c11] at H
        have c11b0 : ((wrap64 ((wrap64 (a1_2)) + 1)) == 0) = false := beq_eq_false_iff_ne.mpr c11
        have c11b1 : ((wrap64 ((wrap64 (a1_2)) + 1)) != 0) = true := bne_iff_ne.mpr c11
        obtain ⟨y103, hy103⟩ : ∃ y_ : List Int, y_ = (([wrap64 ((wrap64 (a1_0)) + (Int.tmod (wrap64 (a1_3)) (wrap64 ((wrap64 (a1_2)) + 1))))] : List Int)) := ⟨_, rfl⟩
        replace H : (if x7_1.length + y103.length < 17592186044416 then (if x9_1 < 4 then ((some (([wrap64 ((wrap64 (Int.tmod a1_6 16)) + 1)] : List Int) : List Int)).bind fun y109 => (if x8_1.length + y109.length < 17592186044416 then (rudderlaw12_VoteBounded.l0 k1 (wrap64 (a1_0)) (wrap64 ((wrap64 (a1_0)) + (wrap64 (a1_2)))) (x7_1 ++ y103) (x8_1 ++ y109) (wrap64 (x9_1 + 1)) a0_0 a0_1 a0_2 a1_0 a1_1 a1_2 a1_3 a1_4 a1_5 a1_6 a1_7 a1_8 a1_9 a1_10) else (none))) else (none)) else (none)) = some r := by first | (rw [hy103]; with_reducible exact H) | (have H2_ := (Option.bind_some _ _).symm.trans H; rw [hy103]; with_reducible exact H2_) | (have H2_ := (Option.bind_some _ _).symm.trans H; with_reducible exact H2_) | with_reducible exact H | (rw [hy103]; exact H) | exact H
        have Ny103 := Aside0.mk hy103
        clear hy103
        by_cases c12 : x7_1.length + y103.length < 17592186044416
        ·rw [if_pos c12] at H
         have LMc12 := Aside0.mk c12
         clear c12
         obtain ⟨y106, hy106⟩ : ∃ y_ : List Int, y_ = (x7_1 ++ y103) := ⟨_, rfl⟩
         replace H : (if x9_1 < 4 then ((some (([wrap64 ((wrap64 (Int.tmod a1_6 16)) + 1)] : List Int) : List Int)).bind fun y109 => (if x8_1.length + y109.length < 17592186044416 then (rudderlaw12_VoteBounded.l0 k1 (wrap64 (a1_0)) (wrap64 ((wrap64 (a1_0)) + (wrap64 (a1_2)))) y106 (x8_1 ++ y109) (wrap64 (x9_1 + 1)) a0_0 a0_1 a0_2 a1_0 a1_1 a1_2 a1_3 a1_4 a1_5 a1_6 a1_7 a1_8 a1_9 a1_10) else (none))) else (none)) = some r := by first | (rw [hy106]; with_reducible exact H) | (have H2_ := (Option.bind_some _ _).symm.trans H; rw [hy106]; with_reducible exact H2_) | (have H2_ := (Option.bind_some _ _).symm.trans H; with_reducible exact H2_) | with_reducible exact H | (rw [hy106]; exact H) | exact H
         have Ny106 := Aside0.mk hy106
         clear hy106
         by_cases c13 : x9_1 < 4
         ·rw [if_pos c13] at H
          have c13b0 : decide (x9_1 < 4) = true := decide_eq_true c13
          clear c13
          obtain ⟨y109, hy109⟩ : ∃ y_ : List Int, y_ = (([wrap64 ((wrap64 (Int.tmod a1_6 16)) + 1)] : List Int)) := ⟨_, rfl⟩
          replace H : (if x8_1.length + y109.length < 17592186044416 then (rudderlaw12_VoteBounded.l0 k1 (wrap64 (a1_0)) (wrap64 ((wrap64 (a1_0)) + (wrap64 (a1_2)))) y106 (x8_1 ++ y109) (wrap64 (x9_1 + 1)) a0_0 a0_1 a0_2 a1_0 a1_1 a1_2 a1_3 a1_4 a1_5 a1_6 a1_7 a1_8 a1_9 a1_10) else (none)) = some r := by first | (rw [hy109]; with_reducible exact H) | (have H2_ := (Option.bind_some _ _).symm.trans H; rw [hy109]; with_reducible exact H2_) | (have H2_ := (Option.bind_some _ _).symm.trans H; with_reducible exact H2_) | with_reducible exact H | (rw [hy109]; exact H) | exact H
          have Ny109 := Aside0.mk hy109
          clear hy109
          by_cases c14 : x8_1.length + y109.length < 17592186044416
          ·rw [if_pos c14] at H
           have LMc14 := Aside0.mk c14
           clear c14
           obtain ⟨y112, hy112⟩ : ∃ y_ : List Int, y_ = (x8_1 ++ y109) := ⟨_, rfl⟩
           replace H : (rudderlaw12_VoteBounded.l0 k1 (wrap64 (a1_0)) (wrap64 ((wrap64 (a1_0)) + (wrap64 (a1_2)))) y106 y112 (wrap64 (x9_1 + 1)) a0_0 a0_1 a0_2 a1_0 a1_1 a1_2 a1_3 a1_4 a1_5 a1_6 a1_7 a1_8 a1_9 a1_10) = some r := by first | (rw [hy112]; with_reducible exact H) | (have H2_ := (Option.bind_some _ _).symm.trans H; rw [hy112]; with_reducible exact H2_) | (have H2_ := (Option.bind_some _ _).symm.trans H; with_reducible exact H2_) | with_reducible exact H | (rw [hy112]; exact H) | exact H
           have Ny112 := Aside0.mk hy112
           clear hy112
           as_aux_lemma =>
            have H' := Aside0.mk H
            clear H
            have hnb15 := NB102_101.out
            have hnc15 := NB101_102.out
            have hcz16_0 : wr.cell? ⟨gb102, 0, none⟩ = some (.int .i32 a1_0) := (blk_cell BK102.out 0).trans rfl
            have hcz16_1 : wr.cell? ⟨gb102, 1, none⟩ = some (.int .i32 a1_1) := (blk_cell BK102.out 1).trans rfl
            have hcz16_2 : wr.cell? ⟨gb102, 2, none⟩ = some (.int .u16 a1_2) := (blk_cell BK102.out 2).trans rfl
            have hcz16_3 : wr.cell? ⟨gb102, 3, none⟩ = some (.int .u16 a1_3) := (blk_cell BK102.out 3).trans rfl
            have hcz16_4 : wr.cell? ⟨gb102, 4, none⟩ = some (.int .u16 a1_4) := (blk_cell BK102.out 4).trans rfl
            have hcz16_5 : wr.cell? ⟨gb102, 5, none⟩ = some (.int .u16 a1_5) := (blk_cell BK102.out 5).trans rfl
            have hcz16_6 : wr.cell? ⟨gb102, 6, none⟩ = some (.int .u8 a1_6) := (blk_cell BK102.out 6).trans rfl
            have hcz16_7 : wr.cell? ⟨gb102, 7, none⟩ = some (.int .u8 a1_7) := (blk_cell BK102.out 7).trans rfl
            have hcz16_8 : wr.cell? ⟨gb102, 8, none⟩ = some (.int .u8 a1_8) := (blk_cell BK102.out 8).trans rfl
            have hcz16_9 : wr.cell? ⟨gb102, 9, none⟩ = some (.int .u8 a1_9) := (blk_cell BK102.out 9).trans rfl
            have hcz16_10 : wr.cell? ⟨gb102, 10, none⟩ = some (.int .u8 a1_10) := (blk_cell BK102.out 10).trans rfl
            try go_wp2
            have n0_ := Aside0.mk (Kd.R_drew HO_7.out)
            have n1_ := Aside0.mk (Kd.R_drew HO_8.out)
            have n2_ := Aside0.mk (blk_drew BK101.out)
            have n3_ := Aside0.mk (blk_drew BK102.out)
            have n4_ := Aside0.mk (below_drew1 HB.out)
            clear HO_7
            clear HO_8
            clear BK101
            clear BK102
            clear HB
            have HO_7 := n0_
            have HO_8 := n1_
            have BK101 := n2_
            have BK102 := n3_
            have HB := n4_
            clear n0_ n1_ n2_ n3_ n4_
            refine start_ (n := 16) (S := fun w' => w'.cell? ⟨gb102, 0, none⟩ = some (.int .i32 a1_0) ∧ w'.cell? ⟨gb102, 1, none⟩ = some (.int .i32 a1_1) ∧ w'.cell? ⟨gb102, 2, none⟩ = some (.int .u16 a1_2) ∧ w'.cell? ⟨gb102, 3, none⟩ = some (.int .u16 a1_3) ∧ w'.cell? ⟨gb102, 4, none⟩ = some (.int .u16 a1_4) ∧ w'.cell? ⟨gb102, 5, none⟩ = some (.int .u16 a1_5) ∧ w'.cell? ⟨gb102, 6, none⟩ = some (.int .u8 a1_6) ∧ w'.cell? ⟨gb102, 7, none⟩ = some (.int .u8 a1_7) ∧ w'.cell? ⟨gb102, 8, none⟩ = some (.int .u8 a1_8) ∧ w'.cell? ⟨gb102, 9, none⟩ = some (.int .u8 a1_9) ∧ w'.cell? ⟨gb102, 10, none⟩ = some (.int .u8 a1_10)) (ds := []) #[false, false, false, false, false, false, false, false, false, false, false, false, false, false, false, false] (by kernel_rfl) rfl rfl ⟨(blk_cell BK102.out 0).trans rfl, (blk_cell BK102.out 1).trans rfl, (blk_cell BK102.out 2).trans rfl, (blk_cell BK102.out 3).trans rfl, (blk_cell BK102.out 4).trans rfl, (blk_cell BK102.out 5).trans rfl, (blk_cell BK102.out 6).trans rfl, (blk_cell BK102.out 7).trans rfl, (blk_cell BK102.out 8).trans rfl, (blk_cell BK102.out 9).trans rfl, (blk_cell BK102.out 10).trans rfl⟩ (fun hHeld => ?_); refine with_tabW rudderlaw12_VoteBounded.tab8 rudderlaw12_VoteBounded.bits8 (fun HT_ HW_ => ?_)
            generalize wr.drew = w17 at HO_7 HO_8 BK101 BK102 HB hHeld ⊢
            refine pure_ (i := 0) (N := some 34) (v := ?_) (a' := ?_) #[true, false, false, false, false, false, false, false, false, false, false, false, false, false, false, false] rfl rfl (any_of HT_.out (by kernel_rfl)) (fun _ _ _ h => h) (Or.inl ⟨by rfl, ?_⟩) ?_ ?_
            rotate_left
            ·intro w'
             go_simp
             with_reducible rfl
            rotate_left
            ·simp only [putR, i64_w, i32_w]
             rfl
            refine pure_ (i := 1) (N := some 35) (v := ?_) (a' := ?_) #[true, true, false, false, false, false, false, false, false, false, false, false, false, false, false, false] rfl rfl (any_of HT_.out (by kernel_rfl)) (fun _ _ _ h => h) (Or.inl ⟨by rfl, ?_⟩) ?_ ?_
            rotate_left
            ·intro w'
             go_simp
             with_reducible rfl
            rotate_left
            ·simp only [putR, i64_w, i32_w]
             rfl
            refine pure_ (i := 2) (N := some 36) (v := ?_) (a' := ?_) #[true, true, true, false, false, false, false, false, false, false, false, false, false, false, false, false] rfl rfl (any_of HT_.out (by kernel_rfl)) (fun _ _ _ h => h) (Or.inl ⟨by rfl, ?_⟩) ?_ ?_
            rotate_left
            ·intro w'
             go_simp
             with_reducible rfl
            rotate_left
            ·simp only [putR, i64_w, i32_w]
             rfl
            refine pure_ (i := 3) (N := some 37) (v := ?_) (a' := ?_) #[true, true, true, true, false, false, false, false, false, false, false, false, false, false, false, false] rfl rfl (any_of HT_.out (by kernel_rfl)) (fun _ _ _ h => h) (Or.inl ⟨by rfl, ?_⟩) ?_ ?_
            rotate_left
            ·intro w'
             go_simp
             with_reducible rfl
            rotate_left
            ·simp only [putR, i64_w, i32_w]
             rfl
            refine pure_ (i := 4) (N := some 38) (v := ?_) (a' := ?_) #[true, true, true, true, true, false, false, false, false, false, false, false, false, false, false, false] rfl rfl (any_of HT_.out (by kernel_rfl)) (fun _ _ _ h => h) (Or.inl ⟨by rfl, ?_⟩) ?_ ?_
            rotate_left
            ·intro w'
             go_simp
             with_reducible rfl
            rotate_left
            ·simp only [putR, i64_w, i32_w]
             rfl
            refine pure_ (i := 7) (N := some 41) (v := ?_) (a' := ?_) #[true, true, true, true, true, false, false, true, false, false, false, false, false, false, false, false] rfl rfl (any_of HT_.out (by kernel_rfl)) (fun _ _ _ h => h) (Or.inl ⟨by rfl, ?_⟩) ?_ ?_
            rotate_left
            ·intro w'
             go_simp
             with_reducible rfl
            rotate_left
            ·simp only [putR, i64_w, i32_w]
             rfl
            refine take_ (i := 5) (N := some 39) (v := ?_) (a' := ?_) #[true, true, true, true, true, true, false, true, false, false, false, false, false, false, false, false] rfl rfl (take_ofW HT_.out HW_.out (by kernel_rfl)) (fun _ _ _ h => h) (Or.inl ⟨by rfl, ?_⟩) hHeld ?_ ?_
            rotate_left
            ·rintro w' ⟨s0, s1, s2, s3, s4, s5, s6, s7, s8, s9, s10⟩
             go_simp
             with_reducible rfl
            rotate_left
            ·simp only [putR, i64_w, i32_w]
             rfl
            refine pure_ (i := 6) (N := some 40) (v := ?_) (a' := ?_) #[true, true, true, true, true, true, true, true, false, false, false, false, false, false, false, false] rfl rfl (any_of HT_.out (by kernel_rfl)) (fun _ _ _ h => h) (Or.inl ⟨by rfl, ?_⟩) ?_ ?_
            rotate_left
            ·intro w'
             go_simp
             with_reducible rfl
            rotate_left
            ·simp only [putR, i64_w, i32_w]
             rfl
            refine take_ (i := 8) (N := some 42) (v := ?_) (a' := ?_) #[true, true, true, true, true, true, true, true, true, false, false, false, false, false, false, false] rfl rfl (take_ofW HT_.out HW_.out (by kernel_rfl)) (fun _ _ _ h => h) (Or.inl ⟨by rfl, ?_⟩) hHeld ?_ ?_
            rotate_left
            ·rintro w' ⟨s0, s1, s2, s3, s4, s5, s6, s7, s8, s9, s10⟩
             go_simp
             with_reducible rfl
            rotate_left
            ·simp only [putR, i64_w, i32_w]
             rfl
            refine pure_ (i := 9) (N := some 43) (v := ?_) (a' := ?_) #[true, true, true, true, true, true, true, true, true, true, false, false, false, false, false, false] rfl rfl (any_of HT_.out (by kernel_rfl)) (fun _ _ _ h => h) (Or.inl ⟨by rfl, ?_⟩) ?_ ?_
            rotate_left
            ·intro w'
             go_simp
             with_reducible rfl
            rotate_left
            ·simp only [putR, i64_w, i32_w]
             rfl
            refine pure_ (i := 10) (N := some 44) (v := ?_) (a' := ?_) #[true, true, true, true, true, true, true, true, true, true, true, false, false, false, false, false] rfl rfl (any_of HT_.out (by kernel_rfl)) (fun _ _ _ h => h) (Or.inl ⟨by rfl, ?_⟩) ?_ ?_
            rotate_left
            ·intro w'
             go_simp
             with_reducible rfl
            rotate_left
            ·simp only [putR, i64_w, i32_w]
             rfl
            refine pure_ (i := 11) (N := some 45) (v := ?_) (a' := ?_) #[true, true, true, true, true, true, true, true, true, true, true, true, false, false, false, false] rfl rfl (any_of HT_.out (by kernel_rfl)) (fun _ _ _ h => h) (Or.inl ⟨by rfl, ?_⟩) ?_ ?_
            rotate_left
            ·intro w'
             go_simp
             with_reducible rfl
            rotate_left
            ·simp only [putR, i64_w, i32_w]
             rfl
            refine pure_ (i := 12) (N := some 46) (v := ?_) (a' := ?_) #[true, true, true, true, true, true, true, true, true, true, true, true, true, false, false, false] rfl rfl (any_of HT_.out (by kernel_rfl)) (fun _ _ _ h => h) (Or.inl ⟨by rfl, ?_⟩) ?_ ?_
            rotate_left
            ·intro w'
             go_simp
             with_reducible rfl
            rotate_left
            ·simp only [putR, i64_w, i32_w]
             rfl
            refine one_ (i := 13) (N := some 47) #[true, true, true, true, true, true, true, true, true, true, true, true, true, true, false, false] rfl rfl (one_of HT_.out (by kernel_rfl)) (by decide) (fun K hK => ?_)
            refine Kd.R_lit_step (Kd.int .i64) _ 3 ?hg (N := 47) ?hd (xs := ([wrap64 ((wrap64 (a1_0)) + (Int.tmod (wrap64 (a1_3)) (wrap64 ((wrap64 (a1_2)) + 1))))] : List Int)) (inner := [.int .i64 (wrap64 ((wrap64 (a1_0)) + (Int.tmod (wrap64 (a1_3)) (wrap64 ((wrap64 (a1_2)) + 1)))))]) (ok := fun _ => True) (okp := fun _ => True) ?hr ?hp (fun _ hk => hk) trivial (Below.refl _ _) (Nat.le_refl _) (by simp) ?_; (case hd => rfl); (case hg => rfl); (case hr => first | (go_simp; done) | (go_simp; rfl)); (case hp => exact (Reps.one (show Kd.M (Kd.int .i64) _ _ _ (wrap64 ((wrap64 (a1_0)) + (Int.tmod (wrap64 (a1_3)) (wrap64 ((wrap64 (a1_2)) + 1))))) [.int .i64 (wrap64 ((wrap64 (a1_0)) + (Int.tmod (wrap64 (a1_3)) (wrap64 ((wrap64 (a1_2)) + 1)))))] from rfl) (Reps.none _ _)))
            intro v104 w18 ho19 hb hg_ hnew_
            clear hg_ hnew_
            (first | rw [← Ny103.out] at ho19 | (simp only [Int.reduceToNat] at ho19; rw [← Ny103.out] at ho19))
            have n0_ := Aside0.mk (Kd.R_elder' (oR HO_7.out) (Kd.R_base ho19) hb)
            have n1_ := Aside0.mk (Kd.R_elder' (oR HO_8.out) (Kd.R_base ho19) hb)
            have n2_ := Aside0.mk (Kd.R_lower (Kd.R_new' (Kd.R_new' ho19 (Kd.R_lt (oR HO_7.out))) (Kd.R_lt (oR HO_8.out))) (below_size (oB2 HB.out GE101.out GE102.out)))
            have n3_ := Aside0.mk (blk_below (g := gb101) (o := O35 a0_0 a0_1 a0_2) (oK BK101.out) hb)
            have n4_ := Aside0.mk (blk_below (g := gb102) (o := O47 a1_0 a1_1 a1_2 a1_3 a1_4 a1_5 a1_6 a1_7 a1_8 a1_9 a1_10) (oK BK102.out) hb)
            have n5_ := Aside0.mk (below_step (oB2 HB.out GE101.out GE102.out) hb)
            clear HO_7
            clear HO_8
            clear BK101
            clear BK102
            clear HB
            have HO_7 := n0_
            have HO_8 := n1_
            have HO105 := n2_
            have BK101 := n3_
            have BK102 := n4_
            have HB := n5_
            clear n0_ n1_ n2_ n3_ n4_ n5_
            clear hb ho19
            obtain ⟨Ao21, co21, eo21⟩ := Kd.R_slice HO105.out
            (first | subst eo21 | (injection eo21 with f1_ f2_ f3_; have f4_ := f1_.symm; have f5_ := f3_.symm; clear f1_ f2_ f3_; subst f4_; subst f5_))
            refine hK.out _ _ ⟨(blk_cell BK102.out 0).trans rfl, (blk_cell BK102.out 1).trans rfl, (blk_cell BK102.out 2).trans rfl, (blk_cell BK102.out 3).trans rfl, (blk_cell BK102.out 4).trans rfl, (blk_cell BK102.out 5).trans rfl, (blk_cell BK102.out 6).trans rfl, (blk_cell BK102.out 7).trans rfl, (blk_cell BK102.out 8).trans rfl, (blk_cell BK102.out 9).trans rfl, (blk_cell BK102.out 10).trans rfl⟩ (fun hHeld => ?_)
            clear hK K
            refine norm_ (a' := ?_) ?_ ?_
            rotate_left
            ·show Act.put _ (some 47) _ = _
             simp only [putR, i64_w, i32_w]
             rfl
            refine one_ (i := 14) (N := some 48) #[true, true, true, true, true, true, true, true, true, true, true, true, true, true, true, false] rfl rfl (one_of HT_.out (by kernel_rfl)) (by decide) (fun K hK => ?_)
            refine Kd.R_append_rows_step (Kd.int .i64) (w0 := w) w.heap.size (by rfl) (.tmp 34) (.tmp 47) 29 3 (.int .i64 0) 8 rfl Try.underlying29 info3 rfl (by decide) (by omega) u7 x7_1 y103 _ _ _ (fun k_ => some k_ ≠ (u8 : Value).ownBlock ∧ some k_ ≠ (.slice Ao21 y103.length co21 : Value).ownBlock) (fun _ => False) rfl rfl ?aO ?aR (fun _ _ h => h) (fun _ h => h.elim) ?aF ?aB ?aS ?aL ?_
            (case aR => repeat (first | exact (Kd.R_reads' HO105.out).2.2 | (with_reducible refine Kd.C_alloc ?_ _) | (with_reducible refine Kd.C_drewN ?_ _) | (with_reducible refine Kd.C_drew ?_)))
            (case aB => exact (oB2 HB.out GE101.out GE102.out))
            (case aF => exact (fun k_ hk => ⟨Kd.fresh' (Kd.R_lt (oR HO_8.out)) k_ hk, Kd.fresh' (Kd.R_lt (oR HO105.out)) k_ hk⟩))
            (case aO => exact (oR HO_7.out))
            (case aS => exact (below_size (oB2 HB.out GE101.out GE102.out)))
            (case aL => have := LMc12.out; omega)
            intro v107 w20 ho hb hg hat
            rw [← Ny106.out] at ho
            have n0_ := Aside0.mk (Kd.R_after (ok := (fun k_ => some k_ ≠ (.slice Ao21 y103.length co21 : Value).ownBlock)) (by (with_reducible repeat (first | apply Kd.R_alloc | apply Kd.R_drewN | apply Kd.R_drew)); exact Kd.R_mono HO_8.out (fun _ hk => ⟨hk.2, hk.1⟩)) hg hat)
            have n1_ := Aside0.mk (blk_grown (g := gb101) (o := O35 a0_0 a0_1 a0_2) (oK BK101.out) hg (Kd.R_ne HO_7.out BK101.out (by decide)))
            have n2_ := Aside0.mk (blk_grown (g := gb102) (o := O47 a1_0 a1_1 a1_2 a1_3 a1_4 a1_5 a1_6 a1_7 a1_8 a1_9 a1_10) (oK BK102.out) hg (Kd.R_ne HO_7.out BK102.out (by decide)))
            have n3_ := Aside0.mk (Kd.R_after (ok := (fun k_ => some k_ ≠ (u8 : Value).ownBlock)) (by (with_reducible repeat (first | apply Kd.R_alloc | apply Kd.R_drewN | apply Kd.R_drew)); exact Kd.R_mono HO105.out (fun _ hk => ⟨hk.2, hk.1.2⟩)) hg hat)
            have n4_ := Aside0.mk (hb)
            have n5_ := Aside0.mk (ho)
            clear HO_8
            clear BK101
            clear BK102
            clear HO105
            clear HB
            clear HO_7
            have HO_8 := n0_
            have BK101 := n1_
            have BK102 := n2_
            have HO105 := n3_
            have HB := n4_
            have HO108 := n5_
            clear n0_ n1_ n2_ n3_ n4_ n5_
            clear ho hb hg hat
            refine hK.out _ _ ⟨(blk_cell BK102.out 0).trans rfl, (blk_cell BK102.out 1).trans rfl, (blk_cell BK102.out 2).trans rfl, (blk_cell BK102.out 3).trans rfl, (blk_cell BK102.out 4).trans rfl, (blk_cell BK102.out 5).trans rfl, (blk_cell BK102.out 6).trans rfl, (blk_cell BK102.out 7).trans rfl, (blk_cell BK102.out 8).trans rfl, (blk_cell BK102.out 9).trans rfl, (blk_cell BK102.out 10).trans rfl⟩ (fun hHeld => ?_)
            clear hK K
            refine norm_ (a' := ?_) ?_ ?_
            rotate_left
            ·show Act.put _ (some 48) _ = _
             simp only [putR, i64_w, i32_w]
             rfl
            refine pure_ (i := 15) (N := some 7) (v := ?_) (a' := ?_) #[true, true, true, true, true, true, true, true, true, true, true, true, true, true, true, true] rfl rfl (any_of HT_.out (by kernel_rfl)) (fun _ _ _ h => h) (Or.inl ⟨by rfl, ?_⟩) ?_ ?_
            rotate_left
            ·intro w'
             go_simp
             with_reducible rfl
            rotate_left
            ·simp only [putR, i64_w, i32_w]
             rfl
            refine done_ (done_of HT_.out (by kernel_rfl)) ?_
            have hcz22_0 : w20.cell? ⟨gb102, 0, none⟩ = some (.int .i32 a1_0) := (blk_cell BK102.out 0).trans rfl
            have hcz22_1 : w20.cell? ⟨gb102, 1, none⟩ = some (.int .i32 a1_1) := (blk_cell BK102.out 1).trans rfl
            have hcz22_2 : w20.cell? ⟨gb102, 2, none⟩ = some (.int .u16 a1_2) := (blk_cell BK102.out 2).trans rfl
            have hcz22_3 : w20.cell? ⟨gb102, 3, none⟩ = some (.int .u16 a1_3) := (blk_cell BK102.out 3).trans rfl
            have hcz22_4 : w20.cell? ⟨gb102, 4, none⟩ = some (.int .u16 a1_4) := (blk_cell BK102.out 4).trans rfl
            have hcz22_5 : w20.cell? ⟨gb102, 5, none⟩ = some (.int .u16 a1_5) := (blk_cell BK102.out 5).trans rfl
            have hcz22_6 : w20.cell? ⟨gb102, 6, none⟩ = some (.int .u8 a1_6) := (blk_cell BK102.out 6).trans rfl
            have hcz22_7 : w20.cell? ⟨gb102, 7, none⟩ = some (.int .u8 a1_7) := (blk_cell BK102.out 7).trans rfl
            have hcz22_8 : w20.cell? ⟨gb102, 8, none⟩ = some (.int .u8 a1_8) := (blk_cell BK102.out 8).trans rfl
            have hcz22_9 : w20.cell? ⟨gb102, 9, none⟩ = some (.int .u8 a1_9) := (blk_cell BK102.out 9).trans rfl
            have hcz22_10 : w20.cell? ⟨gb102, 10, none⟩ = some (.int .u8 a1_10) := (blk_cell BK102.out 10).trans rfl
            try go_wp2_with (first | ((with_reducible refine gate_dst (N := 57) rfl ?_); refine Kd.R_lit (Kd.int .i64) _ 3 ?hg (N := 57) ?hd (xs := ([wrap64 ((wrap64 (Int.tmod a1_6 16)) + 1)] : List Int)) (inner := [.int .i64 (wrap64 ((wrap64 (Int.tmod a1_6 16)) + 1))]) (ok := fun _ => True) (okp := fun _ => True) ?hr ?hp (fun _ hk => hk) trivial (Below.refl _ _) (Nat.le_refl _) (by simp) ?_; (case hd => rfl); (case hg => rfl); (case hr => first | (go_simp; done) | (go_simp; rfl)); (case hp => exact (Reps.one (show Kd.M (Kd.int .i64) _ _ _ (wrap64 ((wrap64 (Int.tmod a1_6 16)) + 1)) [.int .i64 (wrap64 ((wrap64 (Int.tmod a1_6 16)) + 1))] from rfl) (Reps.none _ _))); intro v110 w23 ho24 hb hg_ hnew_; clear hg_ hnew_; (first | rw [← Ny109.out] at ho24 | (simp only [Int.reduceToNat] at ho24; rw [← Ny109.out] at ho24)); have n0_ := Aside0.mk (Kd.R_elder' (oR HO_8.out) (Kd.R_base ho24) hb); have n1_ := Aside0.mk (Kd.R_elder' (oR HO105.out) (Kd.R_base ho24) hb); have n2_ := Aside0.mk (Kd.R_elder' (oR HO108.out) (Kd.R_base ho24) hb); have n3_ := Aside0.mk (Kd.R_lower (Kd.R_new' (Kd.R_new' (Kd.R_new' ho24 (Kd.R_lt (oR HO_8.out))) (Kd.R_lt (oR HO105.out))) (Kd.R_lt (oR HO108.out))) (below_size (oB2 HB.out GE101.out GE102.out))); have n4_ := Aside0.mk (blk_below (g := gb101) (o := O35 a0_0 a0_1 a0_2) (oK BK101.out) hb); have n5_ := Aside0.mk (blk_below (g := gb102) (o := O47 a1_0 a1_1 a1_2 a1_3 a1_4 a1_5 a1_6 a1_7 a1_8 a1_9 a1_10) (oK BK102.out) hb); have n6_ := Aside0.mk (below_step (oB2 HB.out GE101.out GE102.out) hb); clear HO_8; clear HO105; clear HO108; clear BK101; clear BK102; clear HB; have HO_8 := n0_; have HO105 := n1_; have HO108 := n2_; have HO111 := n3_; have BK101 := n4_; have BK102 := n5_; have HB := n6_; clear n0_ n1_ n2_ n3_ n4_ n5_ n6_; clear hb ho24; obtain ⟨Ao26, co26, eo26⟩ := Kd.R_slice HO111.out; subst eo26) | ((with_reducible refine gate_builtin (b := .append) (xs := #[.tmp 49, .tmp 57]) rfl ?_); at_builtin; refine Kd.R_append_rows (Kd.int .i64) (w0 := w) w.heap.size rfl (.tmp 49) (.tmp 57) 29 3 (.int .i64 0) 8 rfl Try.underlying29 info3 rfl (by decide) (by omega) u8 x8_1 y109 _ _ _ (fun k_ => some k_ ≠ (.slice Ao21 y103.length co21 : Value).ownBlock ∧ some k_ ≠ (v107 : Value).ownBlock ∧ some k_ ≠ (.slice Ao26 y109.length co26 : Value).ownBlock) (fun _ => False) rfl rfl ?aO ?aR (fun _ _ h => h) (fun _ h => h.elim) ?aF ?aB ?aS ?aL ?_; (case aR => repeat (first | exact (Kd.R_reads' HO111.out).2.2 | (with_reducible refine Kd.C_alloc ?_ _) | (with_reducible refine Kd.C_drewN ?_ _) | (with_reducible refine Kd.C_drew ?_))); (case aB => exact (oB2 HB.out GE101.out GE102.out)); (case aF => exact (fun k_ hk => ⟨Kd.fresh' (Kd.R_lt (oR HO105.out)) k_ hk, Kd.fresh' (Kd.R_lt (oR HO108.out)) k_ hk, Kd.fresh' (Kd.R_lt (oR HO111.out)) k_ hk⟩)); (case aO => exact (by (with_reducible repeat (first | apply Kd.R_alloc | apply Kd.R_drewN | apply Kd.R_drew)); exact Kd.R_mono HO_8.out (fun _ hk => ⟨hk.1.1, ⟨hk.1.2, hk.2⟩⟩))); (case aS => exact (below_size (oB2 HB.out GE101.out GE102.out))); (case aL => have := LMc14.out; omega); intro v113 w25 ho hb hg hat; rw [← Ny112.out] at ho; have n0_ := Aside0.mk (blk_grown (g := gb101) (o := O35 a0_0 a0_1 a0_2) (oK BK101.out) hg (Kd.R_ne HO_8.out BK101.out (by decide))); have n1_ := Aside0.mk (blk_grown (g := gb102) (o := O47 a1_0 a1_1 a1_2 a1_3 a1_4 a1_5 a1_6 a1_7 a1_8 a1_9 a1_10) (oK BK102.out) hg (Kd.R_ne HO_8.out BK102.out (by decide))); have n2_ := Aside0.mk (Kd.R_after (ok := (fun k_ => some k_ ≠ (v107 : Value).ownBlock ∧ some k_ ≠ (.slice Ao26 y109.length co26 : Value).ownBlock)) (by (with_reducible repeat (first | apply Kd.R_alloc | apply Kd.R_drewN | apply Kd.R_drew)); exact Kd.R_mono HO105.out (fun _ hk => ⟨⟨hk.1.2, hk.2⟩, hk.1.1⟩)) hg hat); have n3_ := Aside0.mk (Kd.R_after (ok := (fun k_ => some k_ ≠ (.slice Ao21 y103.length co21 : Value).ownBlock ∧ some k_ ≠ (.slice Ao26 y109.length co26 : Value).ownBlock)) (by (with_reducible repeat (first | apply Kd.R_alloc | apply Kd.R_drewN | apply Kd.R_drew)); exact Kd.R_mono HO108.out (fun _ hk => ⟨⟨hk.1.2, hk.2⟩, hk.1.1⟩)) hg hat); have n4_ := Aside0.mk (Kd.R_after (ok := (fun k_ => some k_ ≠ (.slice Ao21 y103.length co21 : Value).ownBlock ∧ some k_ ≠ (v107 : Value).ownBlock)) (by (with_reducible repeat (first | apply Kd.R_alloc | apply Kd.R_drewN | apply Kd.R_drew)); exact Kd.R_mono HO111.out (fun _ hk => ⟨⟨hk.1.2, hk.2⟩, hk.1.1.2⟩)) hg hat); have n5_ := Aside0.mk (hb); have n6_ := Aside0.mk (ho); clear BK101; clear BK102; clear HO105; clear HO108; clear HO111; clear HB; clear HO_8; have BK101 := n0_; have BK102 := n1_; have HO105 := n2_; have HO108 := n3_; have HO111 := n4_; have HB := n5_; have HO114 := n6_; clear n0_ n1_ n2_ n3_ n4_ n5_ n6_; clear ho hb hg hat))
            go_roundg k1
            case measure => have := HK1.out; omega
            case rel => exact ⟨(y106), (y112), (wrap64 (x9_1 + 1)), (by first | rfl | (simp; done) | (simp [*]; done)), H', ⟨by have := HK1.out; omega⟩, ⟨by (with_reducible repeat (first | apply Kd.R_alloc | apply Kd.R_drewN | apply Kd.R_drew)); exact Kd.R_mono HO108.out (fun _ hk => hk.2)⟩, ⟨by (with_reducible repeat (first | apply Kd.R_alloc | apply Kd.R_drewN | apply Kd.R_drew)); exact Kd.R_mono HO114.out (fun _ hk => hk.2.1)⟩, ⟨oK BK101.out⟩, ⟨oK BK102.out⟩, ⟨oB2 HB.out GE101.out GE102.out⟩⟩
          ·rw [if_neg c14] at H
           exact absurd H (by simp)
         ·rw [if_neg c13] at H
          exact absurd H (by simp)
        ·rw [if_neg c12] at H
         exact absurd H (by simp)
      ·rw [if_neg c10] at H
       clear c10
       by_cases c27 : x9_1 = 1
       ·rw [if_pos c27] at H
        have c27b0 : Int.toNat x9_1 = 1 := by rw [c27]; rfl
        have c27b1 := eq_true (show 0 ≤ x9_1 by rw [c27]; decide)
        have c27b2 := eq_true (show x9_1 < 3 by rw [c27]; decide)
        have c27b3 := eq_true (show x9_1 < 4 by rw [c27]; decide)
        have c27w : wrap64 (x9_1 + 1) = x9_1 + 1 := by rw [c27]; unfold wrap64; decide
        clear c27
        by_cases c28 : (wrap64 ((wrap64 (a1_2)) + 1)) = 0
        ·rw [if_pos c28] at H
         exact absurd H (by simp)
        ·rw [if_neg c28] at H
         have c28b0 : ((wrap64 ((wrap64 (a1_2)) + 1)) == 0) = false := beq_eq_false_iff_ne.mpr c28
         have c28b1 : ((wrap64 ((wrap64 (a1_2)) + 1)) != 0) = true := bne_iff_ne.mpr c28
         obtain ⟨y115, hy115⟩ : ∃ y_ : List Int, y_ = (([wrap64 ((wrap64 (a1_0)) + (Int.tmod (wrap64 (a1_4)) (wrap64 ((wrap64 (a1_2)) + 1))))] : List Int)) := ⟨_, rfl⟩
         replace H : (if x7_1.length + y115.length < 17592186044416 then (if x9_1 < 4 then ((some (([wrap64 ((wrap64 (Int.tmod a1_7 16)) + 1)] : List Int) : List Int)).bind fun y121 => (if x8_1.length + y121.length < 17592186044416 then (rudderlaw12_VoteBounded.l0 k1 (wrap64 (a1_0)) (wrap64 ((wrap64 (a1_0)) + (wrap64 (a1_2)))) (x7_1 ++ y115) (x8_1 ++ y121) (wrap64 (x9_1 + 1)) a0_0 a0_1 a0_2 a1_0 a1_1 a1_2 a1_3 a1_4 a1_5 a1_6 a1_7 a1_8 a1_9 a1_10) else (none))) else (none)) else (none)) = some r := by first | (rw [hy115]; with_reducible exact H) | (have H2_ := (Option.bind_some _ _).symm.trans H; rw [hy115]; with_reducible exact H2_) | (have H2_ := (Option.bind_some _ _).symm.trans H; with_reducible exact H2_) | with_reducible exact H | (rw [hy115]; exact H) | exact H
         have Ny115 := Aside0.mk hy115
         clear hy115
         by_cases c29 : x7_1.length + y115.length < 17592186044416
         ·rw [if_pos c29] at H
          have LMc29 := Aside0.mk c29
          clear c29
          obtain ⟨y118, hy118⟩ : ∃ y_ : List Int, y_ = (x7_1 ++ y115) := ⟨_, rfl⟩
          replace H : (if x9_1 < 4 then ((some (([wrap64 ((wrap64 (Int.tmod a1_7 16)) + 1)] : List Int) : List Int)).bind fun y121 => (if x8_1.length + y121.length < 17592186044416 then (rudderlaw12_VoteBounded.l0 k1 (wrap64 (a1_0)) (wrap64 ((wrap64 (a1_0)) + (wrap64 (a1_2)))) y118 (x8_1 ++ y121) (wrap64 (x9_1 + 1)) a0_0 a0_1 a0_2 a1_0 a1_1 a1_2 a1_3 a1_4 a1_5 a1_6 a1_7 a1_8 a1_9 a1_10) else (none))) else (none)) = some r := by first | (rw [hy118]; with_reducible exact H) | (have H2_ := (Option.bind_some _ _).symm.trans H; rw [hy118]; with_reducible exact H2_) | (have H2_ := (Option.bind_some _ _).symm.trans H; with_reducible exact H2_) | with_reducible exact H | (rw [hy118]; exact H) | exact H
          have Ny118 := Aside0.mk hy118
          clear hy118
          by_cases c30 : x9_1 < 4
          ·rw [if_pos c30] at H
           have c30b0 : decide (x9_1 < 4) = true := decide_eq_true c30
           clear c30
           obtain ⟨y121, hy121⟩ : ∃ y_ : List Int, y_ = (([wrap64 ((wrap64 (Int.tmod a1_7 16)) + 1)] : List Int)) := ⟨_, rfl⟩
           replace H : (if x8_1.length + y121.length < 17592186044416 then (rudderlaw12_VoteBounded.l0 k1 (wrap64 (a1_0)) (wrap64 ((wrap64 (a1_0)) + (wrap64 (a1_2)))) y118 (x8_1 ++ y121) (wrap64 (x9_1 + 1)) a0_0 a0_1 a0_2 a1_0 a1_1 a1_2 a1_3 a1_4 a1_5 a1_6 a1_7 a1_8 a1_9 a1_10) else (none)) = some r := by first | (rw [hy121]; with_reducible exact H) | (have H2_ := (Option.bind_some _ _).symm.trans H; rw [hy121]; with_reducible exact H2_) | (have H2_ := (Option.bind_some _ _).symm.trans H; with_reducible exact H2_) | with_reducible exact H | (rw [hy121]; exact H) | exact H
           have Ny121 := Aside0.mk hy121
           clear hy121
           by_cases c31 : x8_1.length + y121.length < 17592186044416
           ·rw [if_pos c31] at H
            have LMc31 := Aside0.mk c31
            clear c31
            obtain ⟨y124, hy124⟩ : ∃ y_ : List Int, y_ = (x8_1 ++ y121) := ⟨_, rfl⟩
            replace H : (rudderlaw12_VoteBounded.l0 k1 (wrap64 (a1_0)) (wrap64 ((wrap64 (a1_0)) + (wrap64 (a1_2)))) y118 y124 (wrap64 (x9_1 + 1)) a0_0 a0_1 a0_2 a1_0 a1_1 a1_2 a1_3 a1_4 a1_5 a1_6 a1_7 a1_8 a1_9 a1_10) = some r := by first | (rw [hy124]; with_reducible exact H) | (have H2_ := (Option.bind_some _ _).symm.trans H; rw [hy124]; with_reducible exact H2_) | (have H2_ := (Option.bind_some _ _).symm.trans H; with_reducible exact H2_) | with_reducible exact H | (rw [hy124]; exact H) | exact H
            have Ny124 := Aside0.mk hy124
            clear hy124
            as_aux_lemma =>
             have H' := Aside0.mk H
             clear H
             have hnb32 := NB102_101.out
             have hnc32 := NB101_102.out
             have hcz33_0 : wr.cell? ⟨gb102, 0, none⟩ = some (.int .i32 a1_0) := (blk_cell BK102.out 0).trans rfl
             have hcz33_1 : wr.cell? ⟨gb102, 1, none⟩ = some (.int .i32 a1_1) := (blk_cell BK102.out 1).trans rfl
             have hcz33_2 : wr.cell? ⟨gb102, 2, none⟩ = some (.int .u16 a1_2) := (blk_cell BK102.out 2).trans rfl
             have hcz33_3 : wr.cell? ⟨gb102, 3, none⟩ = some (.int .u16 a1_3) := (blk_cell BK102.out 3).trans rfl
             have hcz33_4 : wr.cell? ⟨gb102, 4, none⟩ = some (.int .u16 a1_4) := (blk_cell BK102.out 4).trans rfl
             have hcz33_5 : wr.cell? ⟨gb102, 5, none⟩ = some (.int .u16 a1_5) := (blk_cell BK102.out 5).trans rfl
             have hcz33_6 : wr.cell? ⟨gb102, 6, none⟩ = some (.int .u8 a1_6) := (blk_cell BK102.out 6).trans rfl
             have hcz33_7 : wr.cell? ⟨gb102, 7, none⟩ = some (.int .u8 a1_7) := (blk_cell BK102.out 7).trans rfl
             have hcz33_8 : wr.cell? ⟨gb102, 8, none⟩ = some (.int .u8 a1_8) := (blk_cell BK102.out 8).trans rfl
             have hcz33_9 : wr.cell? ⟨gb102, 9, none⟩ = some (.int .u8 a1_9) := (blk_cell BK102.out 9).trans rfl
             have hcz33_10 : wr.cell? ⟨gb102, 10, none⟩ = some (.int .u8 a1_10) := (blk_cell BK102.out 10).trans rfl
             try go_wp2
             have n0_ := Aside0.mk (Kd.R_drew HO_7.out)
             have n1_ := Aside0.mk (Kd.R_drew HO_8.out)
             have n2_ := Aside0.mk (blk_drew BK101.out)
             have n3_ := Aside0.mk (blk_drew BK102.out)
             have n4_ := Aside0.mk (below_drew1 HB.out)
             clear HO_7
             clear HO_8
             clear BK101
             clear BK102
             clear HB
             have HO_7 := n0_
             have HO_8 := n1_
             have BK101 := n2_
             have BK102 := n3_
             have HB := n4_
             clear n0_ n1_ n2_ n3_ n4_
             refine start_ (n := 16) (S := fun w' => w'.cell? ⟨gb102, 0, none⟩ = some (.int .i32 a1_0) ∧ w'.cell? ⟨gb102, 1, none⟩ = some (.int .i32 a1_1) ∧ w'.cell? ⟨gb102, 2, none⟩ = some (.int .u16 a1_2) ∧ w'.cell? ⟨gb102, 3, none⟩ = some (.int .u16 a1_3) ∧ w'.cell? ⟨gb102, 4, none⟩ = some (.int .u16 a1_4) ∧ w'.cell? ⟨gb102, 5, none⟩ = some (.int .u16 a1_5) ∧ w'.cell? ⟨gb102, 6, none⟩ = some (.int .u8 a1_6) ∧ w'.cell? ⟨gb102, 7, none⟩ = some (.int .u8 a1_7) ∧ w'.cell? ⟨gb102, 8, none⟩ = some (.int .u8 a1_8) ∧ w'.cell? ⟨gb102, 9, none⟩ = some (.int .u8 a1_9) ∧ w'.cell? ⟨gb102, 10, none⟩ = some (.int .u8 a1_10)) (ds := []) #[false, false, false, false, false, false, false, false, false, false, false, false, false, false, false, false] (by kernel_rfl) rfl rfl ⟨(blk_cell BK102.out 0).trans rfl, (blk_cell BK102.out 1).trans rfl, (blk_cell BK102.out 2).trans rfl, (blk_cell BK102.out 3).trans rfl, (blk_cell BK102.out 4).trans rfl, (blk_cell BK102.out 5).trans rfl, (blk_cell BK102.out 6).trans rfl, (blk_cell BK102.out 7).trans rfl, (blk_cell BK102.out 8).trans rfl, (blk_cell BK102.out 9).trans rfl, (blk_cell BK102.out 10).trans rfl⟩ (fun hHeld => ?_); refine with_tabW rudderlaw12_VoteBounded.tab8 rudderlaw12_VoteBounded.bits8 (fun HT_ HW_ => ?_)
             generalize wr.drew = w34 at HO_7 HO_8 BK101 BK102 HB hHeld ⊢
             refine pure_ (i := 0) (N := some 34) (v := ?_) (a' := ?_) #[true, false, false, false, false, false, false, false, false, false, false, false, false, false, false, false] rfl rfl (any_of HT_.out (by kernel_rfl)) (fun _ _ _ h => h) (Or.inl ⟨by rfl, ?_⟩) ?_ ?_
             rotate_left
             ·intro w'
              go_simp
              with_reducible rfl
             rotate_left
             ·simp only [putR, i64_w, i32_w]
              rfl
             refine pure_ (i := 1) (N := some 35) (v := ?_) (a' := ?_) #[true, true, false, false, false, false, false, false, false, false, false, false, false, false, false, false] rfl rfl (any_of HT_.out (by kernel_rfl)) (fun _ _ _ h => h) (Or.inl ⟨by rfl, ?_⟩) ?_ ?_
             rotate_left
             ·intro w'
              go_simp
              with_reducible rfl
             rotate_left
             ·simp only [putR, i64_w, i32_w]
              rfl
             refine pure_ (i := 2) (N := some 36) (v := ?_) (a' := ?_) #[true, true, true, false, false, false, false, false, false, false, false, false, false, false, false, false] rfl rfl (any_of HT_.out (by kernel_rfl)) (fun _ _ _ h => h) (Or.inl ⟨by rfl, ?_⟩) ?_ ?_
             rotate_left
             ·intro w'
              go_simp
              with_reducible rfl
             rotate_left
             ·simp only [putR, i64_w, i32_w]
              rfl
             refine pure_ (i := 3) (N := some 37) (v := ?_) (a' := ?_) #[true, true, true, true, false, false, false, false, false, false, false, false, false, false, false, false] rfl rfl (any_of HT_.out (by kernel_rfl)) (fun _ _ _ h => h) (Or.inl ⟨by rfl, ?_⟩) ?_ ?_
             rotate_left
             ·intro w'
              go_simp
              with_reducible rfl
             rotate_left
             ·simp only [putR, i64_w, i32_w]
              rfl
             refine pure_ (i := 4) (N := some 38) (v := ?_) (a' := ?_) #[true, true, true, true, true, false, false, false, false, false, false, false, false, false, false, false] rfl rfl (any_of HT_.out (by kernel_rfl)) (fun _ _ _ h => h) (Or.inl ⟨by rfl, ?_⟩) ?_ ?_
             rotate_left
             ·intro w'
              go_simp
              with_reducible rfl
             rotate_left
             ·simp only [putR, i64_w, i32_w]
              rfl
             refine pure_ (i := 7) (N := some 41) (v := ?_) (a' := ?_) #[true, true, true, true, true, false, false, true, false, false, false, false, false, false, false, false] rfl rfl (any_of HT_.out (by kernel_rfl)) (fun _ _ _ h => h) (Or.inl ⟨by rfl, ?_⟩) ?_ ?_
             rotate_left
             ·intro w'
              go_simp
              with_reducible rfl
             rotate_left
             ·simp only [putR, i64_w, i32_w]
              rfl
             refine take_ (i := 5) (N := some 39) (v := ?_) (a' := ?_) #[true, true, true, true, true, true, false, true, false, false, false, false, false, false, false, false] rfl rfl (take_ofW HT_.out HW_.out (by kernel_rfl)) (fun _ _ _ h => h) (Or.inl ⟨by rfl, ?_⟩) hHeld ?_ ?_
             rotate_left
             ·rintro w' ⟨s0, s1, s2, s3, s4, s5, s6, s7, s8, s9, s10⟩
              go_simp
              with_reducible rfl
             rotate_left
             ·simp only [putR, i64_w, i32_w]
              rfl
             refine pure_ (i := 6) (N := some 40) (v := ?_) (a' := ?_) #[true, true, true, true, true, true, true, true, false, false, false, false, false, false, false, false] rfl rfl (any_of HT_.out (by kernel_rfl)) (fun _ _ _ h => h) (Or.inl ⟨by rfl, ?_⟩) ?_ ?_
             rotate_left
             ·intro w'
              go_simp
              with_reducible rfl
             rotate_left
             ·simp only [putR, i64_w, i32_w]
              rfl
             refine take_ (i := 8) (N := some 42) (v := ?_) (a' := ?_) #[true, true, true, true, true, true, true, true, true, false, false, false, false, false, false, false] rfl rfl (take_ofW HT_.out HW_.out (by kernel_rfl)) (fun _ _ _ h => h) (Or.inl ⟨by rfl, ?_⟩) hHeld ?_ ?_
             rotate_left
             ·rintro w' ⟨s0, s1, s2, s3, s4, s5, s6, s7, s8, s9, s10⟩
              go_simp
              with_reducible rfl
             rotate_left
             ·simp only [putR, i64_w, i32_w]
              rfl
             refine pure_ (i := 9) (N := some 43) (v := ?_) (a' := ?_) #[true, true, true, true, true, true, true, true, true, true, false, false, false, false, false, false] rfl rfl (any_of HT_.out (by kernel_rfl)) (fun _ _ _ h => h) (Or.inl ⟨by rfl, ?_⟩) ?_ ?_
             rotate_left
             ·intro w'
              go_simp
              with_reducible rfl
             rotate_left
             ·simp only [putR, i64_w, i32_w]
              rfl
             refine pure_ (i := 10) (N := some 44) (v := ?_) (a' := ?_) #[true, true, true, true, true, true, true, true, true, true, true, false, false, false, false, false] rfl rfl (any_of HT_.out (by kernel_rfl)) (fun _ _ _ h => h) (Or.inl ⟨by rfl, ?_⟩) ?_ ?_
             rotate_left
             ·intro w'
              go_simp
              with_reducible rfl
             rotate_left
             ·simp only [putR, i64_w, i32_w]
              rfl
             refine pure_ (i := 11) (N := some 45) (v := ?_) (a' := ?_) #[true, true, true, true, true, true, true, true, true, true, true, true, false, false, false, false] rfl rfl (any_of HT_.out (by kernel_rfl)) (fun _ _ _ h => h) (Or.inl ⟨by rfl, ?_⟩) ?_ ?_
             rotate_left
             ·intro w'
              go_simp
              with_reducible rfl
             rotate_left
             ·simp only [putR, i64_w, i32_w]
              rfl
             refine pure_ (i := 12) (N := some 46) (v := ?_) (a' := ?_) #[true, true, true, true, true, true, true, true, true, true, true, true, true, false, false, false] rfl rfl (any_of HT_.out (by kernel_rfl)) (fun _ _ _ h => h) (Or.inl ⟨by rfl, ?_⟩) ?_ ?_
             rotate_left
             ·intro w'
              go_simp
              with_reducible rfl
             rotate_left
             ·simp only [putR, i64_w, i32_w]
              rfl
             refine one_ (i := 13) (N := some 47) #[true, true, true, true, true, true, true, true, true, true, true, true, true, true, false, false] rfl rfl (one_of HT_.out (by kernel_rfl)) (by decide) (fun K hK => ?_)
             refine Kd.R_lit_step (Kd.int .i64) _ 3 ?hg (N := 47) ?hd (xs := ([wrap64 ((wrap64 (a1_0)) + (Int.tmod (wrap64 (a1_4)) (wrap64 ((wrap64 (a1_2)) + 1))))] : List Int)) (inner := [.int .i64 (wrap64 ((wrap64 (a1_0)) + (Int.tmod (wrap64 (a1_4)) (wrap64 ((wrap64 (a1_2)) + 1)))))]) (ok := fun _ => True) (okp := fun _ => True) ?hr ?hp (fun _ hk => hk) trivial (Below.refl _ _) (Nat.le_refl _) (by simp) ?_; (case hd => rfl); (case hg => rfl); (case hr => first | (go_simp; done) | (go_simp; rfl)); (case hp => exact (Reps.one (show Kd.M (Kd.int .i64) _ _ _ (wrap64 ((wrap64 (a1_0)) + (Int.tmod (wrap64 (a1_4)) (wrap64 ((wrap64 (a1_2)) + 1))))) [.int .i64 (wrap64 ((wrap64 (a1_0)) + (Int.tmod (wrap64 (a1_4)) (wrap64 ((wrap64 (a1_2)) + 1)))))] from rfl) (Reps.none _ _)))
             intro v116 w35 ho36 hb hg_ hnew_
             clear hg_ hnew_
             (first | rw [← Ny115.out] at ho36 | (simp only [Int.reduceToNat] at ho36; rw [← Ny115.out] at ho36))
             have n0_ := Aside0.mk (Kd.R_elder' (oR HO_7.out) (Kd.R_base ho36) hb)
             have n1_ := Aside0.mk (Kd.R_elder' (oR HO_8.out) (Kd.R_base ho36) hb)
             have n2_ := Aside0.mk (Kd.R_lower (Kd.R_new' (Kd.R_new' ho36 (Kd.R_lt (oR HO_7.out))) (Kd.R_lt (oR HO_8.out))) (below_size (oB2 HB.out GE101.out GE102.out)))
             have n3_ := Aside0.mk (blk_below (g := gb101) (o := O35 a0_0 a0_1 a0_2) (oK BK101.out) hb)
             have n4_ := Aside0.mk (blk_below (g := gb102) (o := O47 a1_0 a1_1 a1_2 a1_3 a1_4 a1_5 a1_6 a1_7 a1_8 a1_9 a1_10) (oK BK102.out) hb)
             have n5_ := Aside0.mk (below_step (oB2 HB.out GE101.out GE102.out) hb)
             clear HO_7
             clear HO_8
             clear BK101
             clear BK102
             clear HB
             have HO_7 := n0_
             have HO_8 := n1_
             have HO117 := n2_
             have BK101 := n3_
             have BK102 := n4_
             have HB := n5_
             clear n0_ n1_ n2_ n3_ n4_ n5_
             clear hb ho36
             obtain ⟨Ao38, co38, eo38⟩ := Kd.R_slice HO117.out
             (first | subst eo38 | (injection eo38 with f1_ f2_ f3_; have f4_ := f1_.symm; have f5_ := f3_.symm; clear f1_ f2_ f3_; subst f4_; subst f5_))
             refine hK.out _ _ ⟨(blk_cell BK102.out 0).trans rfl, (blk_cell BK102.out 1).trans rfl, (blk_cell BK102.out 2).trans rfl, (blk_cell BK102.out 3).trans rfl, (blk_cell BK102.out 4).trans rfl, (blk_cell BK102.out 5).trans rfl, (blk_cell BK102.out 6).trans rfl, (blk_cell BK102.out 7).trans rfl, (blk_cell BK102.out 8).trans rfl, (blk_cell BK102.out 9).trans rfl, (blk_cell BK102.out 10).trans rfl⟩ (fun hHeld => ?_)
             clear hK K
             refine norm_ (a' := ?_) ?_ ?_
             rotate_left
             ·show Act.put _ (some 47) _ = _
              simp only [putR, i64_w, i32_w]
              rfl
             refine one_ (i := 14) (N := some 48) #[true, true, true, true, true, true, true, true, true, true, true, true, true, true, true, false] rfl rfl (one_of HT_.out (by kernel_rfl)) (by decide) (fun K hK => ?_)
             refine Kd.R_append_rows_step (Kd.int .i64) (w0 := w) w.heap.size (by rfl) (.tmp 34) (.tmp 47) 29 3 (.int .i64 0) 8 rfl Try.underlying29 info3 rfl (by decide) (by omega) u7 x7_1 y115 _ _ _ (fun k_ => some k_ ≠ (u8 : Value).ownBlock ∧ some k_ ≠ (.slice Ao38 y115.length co38 : Value).ownBlock) (fun _ => False) rfl rfl ?aO ?aR (fun _ _ h => h) (fun _ h => h.elim) ?aF ?aB ?aS ?aL ?_
             (case aR => repeat (first | exact (Kd.R_reads' HO117.out).2.2 | (with_reducible refine Kd.C_alloc ?_ _) | (with_reducible refine Kd.C_drewN ?_ _) | (with_reducible refine Kd.C_drew ?_)))
             (case aB => exact (oB2 HB.out GE101.out GE102.out))
             (case aF => exact (fun k_ hk => ⟨Kd.fresh' (Kd.R_lt (oR HO_8.out)) k_ hk, Kd.fresh' (Kd.R_lt (oR HO117.out)) k_ hk⟩))
             (case aO => exact (oR HO_7.out))
             (case aS => exact (below_size (oB2 HB.out GE101.out GE102.out)))
             (case aL => have := LMc29.out; omega)
             intro v119 w37 ho hb hg hat
             rw [← Ny118.out] at ho
             have n0_ := Aside0.mk (Kd.R_after (ok := (fun k_ => some k_ ≠ (.slice Ao38 y115.length co38 : Value).ownBlock)) (by (with_reducible repeat (first | apply Kd.R_alloc | apply Kd.R_drewN | apply Kd.R_drew)); exact Kd.R_mono HO_8.out (fun _ hk => ⟨hk.2, hk.1⟩)) hg hat)
             have n1_ := Aside0.mk (blk_grown (g := gb101) (o := O35 a0_0 a0_1 a0_2) (oK BK101.out) hg (Kd.R_ne HO_7.out BK101.out (by decide)))
             have n2_ := Aside0.mk (blk_grown (g := gb102) (o := O47 a1_0 a1_1 a1_2 a1_3 a1_4 a1_5 a1_6 a1_7 a1_8 a1_9 a1_10) (oK BK102.out) hg (Kd.R_ne HO_7.out BK102.out (by decide)))
             have n3_ := Aside0.mk (Kd.R_after (ok := (fun k_ => some k_ ≠ (u8 : Value).ownBlock)) (by (with_reducible repeat (first | apply Kd.R_alloc | apply Kd.R_drewN | apply Kd.R_drew)); exact Kd.R_mono HO117.out (fun _ hk => ⟨hk.2, hk.1.2⟩)) hg hat)
             have n4_ := Aside0.mk (hb)
             have n5_ := Aside0.mk (ho)
             clear HO_8
             clear BK101
             clear BK102
             clear HO117
             clear HB
             clear HO_7
             have HO_8 := n0_
             have BK101 := n1_
             have BK102 := n2_
             have HO117 := n3_
             have HB := n4_
             have HO120 := n5_
             clear n0_ n1_ n2_ n3_ n4_ n5_
             clear ho hb hg hat
             refine hK.out _ _ ⟨(blk_cell BK102.out 0).trans rfl, (blk_cell BK102.out 1).trans rfl, (blk_cell BK102.out 2).trans rfl, (blk_cell BK102.out 3).trans rfl, (blk_cell BK102.out 4).trans rfl, (blk_cell BK102.out 5).trans rfl, (blk_cell BK102.out 6).trans rfl, (blk_cell BK102.out 7).trans rfl, (blk_cell BK102.out 8).trans rfl, (blk_cell BK102.out 9).trans rfl, (blk_cell BK102.out 10).trans rfl⟩ (fun hHeld => ?_)
             clear hK K
             refine norm_ (a' := ?_) ?_ ?_
             rotate_left
             ·show Act.put _ (some 48) _ = _
              simp only [putR, i64_w, i32_w]
              rfl
             refine pure_ (i := 15) (N := some 7) (v := ?_) (a' := ?_) #[true, true, true, true, true, true, true, true, true, true, true, true, true, true, true, true] rfl rfl (any_of HT_.out (by kernel_rfl)) (fun _ _ _ h => h) (Or.inl ⟨by rfl, ?_⟩) ?_ ?_
             rotate_left
             ·intro w'
              go_simp
              with_reducible rfl
             rotate_left
             ·simp only [putR, i64_w, i32_w]
              rfl
             refine done_ (done_of HT_.out (by kernel_rfl)) ?_
             have hcz39_0 : w37.cell? ⟨gb102, 0, none⟩ = some (.int .i32 a1_0) := (blk_cell BK102.out 0).trans rfl
             have hcz39_1 : w37.cell? ⟨gb102, 1, none⟩ = some (.int .i32 a1_1) := (blk_cell BK102.out 1).trans rfl
             have hcz39_2 : w37.cell? ⟨gb102, 2, none⟩ = some (.int .u16 a1_2) := (blk_cell BK102.out 2).trans rfl
             have hcz39_3 : w37.cell? ⟨gb102, 3, none⟩ = some (.int .u16 a1_3) := (blk_cell BK102.out 3).trans rfl
             have hcz39_4 : w37.cell? ⟨gb102, 4, none⟩ = some (.int .u16 a1_4) := (blk_cell BK102.out 4).trans rfl
             have hcz39_5 : w37.cell? ⟨gb102, 5, none⟩ = some (.int .u16 a1_5) := (blk_cell BK102.out 5).trans rfl
             have hcz39_6 : w37.cell? ⟨gb102, 6, none⟩ = some (.int .u8 a1_6) := (blk_cell BK102.out 6).trans rfl
             have hcz39_7 : w37.cell? ⟨gb102, 7, none⟩ = some (.int .u8 a1_7) := (blk_cell BK102.out 7).trans rfl
             have hcz39_8 : w37.cell? ⟨gb102, 8, none⟩ = some (.int .u8 a1_8) := (blk_cell BK102.out 8).trans rfl
             have hcz39_9 : w37.cell? ⟨gb102, 9, none⟩ = some (.int .u8 a1_9) := (blk_cell BK102.out 9).trans rfl
             have hcz39_10 : w37.cell? ⟨gb102, 10, none⟩ = some (.int .u8 a1_10) := (blk_cell BK102.out 10).trans rfl
             try go_wp2_with (first | ((with_reducible refine gate_dst (N := 57) rfl ?_); refine Kd.R_lit (Kd.int .i64) _ 3 ?hg (N := 57) ?hd (xs := ([wrap64 ((wrap64 (Int.tmod a1_7 16)) + 1)] : List Int)) (inner := [.int .i64 (wrap64 ((wrap64 (Int.tmod a1_7 16)) + 1))]) (ok := fun _ => True) (okp := fun _ => True) ?hr ?hp (fun _ hk => hk) trivial (Below.refl _ _) (Nat.le_refl _) (by simp) ?_; (case hd => rfl); (case hg => rfl); (case hr => first | (go_simp; done) | (go_simp; rfl)); (case hp => exact (Reps.one (show Kd.M (Kd.int .i64) _ _ _ (wrap64 ((wrap64 (Int.tmod a1_7 16)) + 1)) [.int .i64 (wrap64 ((wrap64 (Int.tmod a1_7 16)) + 1))] from rfl) (Reps.none _ _))); intro v122 w40 ho41 hb hg_ hnew_; clear hg_ hnew_; (first | rw [← Ny121.out] at ho41 | (simp only [Int.reduceToNat] at ho41; rw [← Ny121.out] at ho41)); have n0_ := Aside0.mk (Kd.R_elder' (oR HO_8.out) (Kd.R_base ho41) hb); have n1_ := Aside0.mk (Kd.R_elder' (oR HO117.out) (Kd.R_base ho41) hb); have n2_ := Aside0.mk (Kd.R_elder' (oR HO120.out) (Kd.R_base ho41) hb); have n3_ := Aside0.mk (Kd.R_lower (Kd.R_new' (Kd.R_new' (Kd.R_new' ho41 (Kd.R_lt (oR HO_8.out))) (Kd.R_lt (oR HO117.out))) (Kd.R_lt (oR HO120.out))) (below_size (oB2 HB.out GE101.out GE102.out))); have n4_ := Aside0.mk (blk_below (g := gb101) (o := O35 a0_0 a0_1 a0_2) (oK BK101.out) hb); have n5_ := Aside0.mk (blk_below (g := gb102) (o := O47 a1_0 a1_1 a1_2 a1_3 a1_4 a1_5 a1_6 a1_7 a1_8 a1_9 a1_10) (oK BK102.out) hb); have n6_ := Aside0.mk (below_step (oB2 HB.out GE101.out GE102.out) hb); clear HO_8; clear HO117; clear HO120; clear BK101; clear BK102; clear HB; have HO_8 := n0_; have HO117 := n1_; have HO120 := n2_; have HO123 := n3_; have BK101 := n4_; have BK102 := n5_; have HB := n6_; clear n0_ n1_ n2_ n3_ n4_ n5_ n6_; clear hb ho41; obtain ⟨Ao43, co43, eo43⟩ := Kd.R_slice HO123.out; subst eo43) | ((with_reducible refine gate_builtin (b := .append) (xs := #[.tmp 49, .tmp 57]) rfl ?_); at_builtin; refine Kd.R_append_rows (Kd.int .i64) (w0 := w) w.heap.size rfl (.tmp 49) (.tmp 57) 29 3 (.int .i64 0) 8 rfl Try.underlying29 info3 rfl (by decide) (by omega) u8 x8_1 y121 _ _ _ (fun k_ => some k_ ≠ (.slice Ao38 y115.length co38 : Value).ownBlock ∧ some k_ ≠ (v119 : Value).ownBlock ∧ some k_ ≠ (.slice Ao43 y121.length co43 : Value).ownBlock) (fun _ => False) rfl rfl ?aO ?aR (fun _ _ h => h) (fun _ h => h.elim) ?aF ?aB ?aS ?aL ?_; (case aR => repeat (first | exact (Kd.R_reads' HO123.out).2.2 | (with_reducible refine Kd.C_alloc ?_ _) | (with_reducible refine Kd.C_drewN ?_ _) | (with_reducible refine Kd.C_drew ?_))); (case aB => exact (oB2 HB.out GE101.out GE102.out)); (case aF => exact (fun k_ hk => ⟨Kd.fresh' (Kd.R_lt (oR HO117.out)) k_ hk, Kd.fresh' (Kd.R_lt (oR HO120.out)) k_ hk, Kd.fresh' (Kd.R_lt (oR HO123.out)) k_ hk⟩)); (case aO => exact (by (with_reducible repeat (first | apply Kd.R_alloc | apply Kd.R_drewN | apply Kd.R_drew)); exact Kd.R_mono HO_8.out (fun _ hk => ⟨hk.1.1, ⟨hk.1.2, hk.2⟩⟩))); (case aS => exact (below_size (oB2 HB.out GE101.out GE102.out))); (case aL => have := LMc31.out; omega); intro v125 w42 ho hb hg hat; rw [← Ny124.out] at ho; have n0_ := Aside0.mk (blk_grown (g := gb101) (o := O35 a0_0 a0_1 a0_2) (oK BK101.out) hg (Kd.R_ne HO_8.out BK101.out (by decide))); have n1_ := Aside0.mk (blk_grown (g := gb102) (o := O47 a1_0 a1_1 a1_2 a1_3 a1_4 a1_5 a1_6 a1_7 a1_8 a1_9 a1_10) (oK BK102.out) hg (Kd.R_ne HO_8.out BK102.out (by decide))); have n2_ := Aside0.mk (Kd.R_after (ok := (fun k_ => some k_ ≠ (v119 : Value).ownBlock ∧ some k_ ≠ (.slice Ao43 y121.length co43 : Value).ownBlock)) (by (with_reducible repeat (first | apply Kd.R_alloc | apply Kd.R_drewN | apply Kd.R_drew)); exact Kd.R_mono HO117.out (fun _ hk => ⟨⟨hk.1.2, hk.2⟩, hk.1.1⟩)) hg hat); have n3_ := Aside0.mk (Kd.R_after (ok := (fun k_ => some k_ ≠ (.slice Ao38 y115.length co38 : Value).ownBlock ∧ some k_ ≠ (.slice Ao43 y121.length co43 : Value).ownBlock)) (by (with_reducible repeat (first | apply Kd.R_alloc | apply Kd.R_drewN | apply Kd.R_drew)); exact Kd.R_mono HO120.out (fun _ hk => ⟨⟨hk.1.2, hk.2⟩, hk.1.1⟩)) hg hat); have n4_ := Aside0.mk (Kd.R_after (ok := (fun k_ => some k_ ≠ (.slice Ao38 y115.length co38 : Value).ownBlock ∧ some k_ ≠ (v119 : Value).ownBlock)) (by (with_reducible repeat (first | apply Kd.R_alloc | apply Kd.R_drewN | apply Kd.R_drew)); exact Kd.R_mono HO123.out (fun _ hk => ⟨⟨hk.1.2, hk.2⟩, hk.1.1.2⟩)) hg hat); have n5_ := Aside0.mk (hb); have n6_ := Aside0.mk (ho); clear BK101; clear BK102; clear HO117; clear HO120; clear HO123; clear HB; clear HO_8; have BK101 := n0_; have BK102 := n1_; have HO117 := n2_; have HO120 := n3_; have HO123 := n4_; have HB := n5_; have HO126 := n6_; clear n0_ n1_ n2_ n3_ n4_ n5_ n6_; clear ho hb hg hat))
             go_roundg k1
             case measure => have := HK1.out; omega
             case rel => exact ⟨(y118), (y124), (wrap64 (x9_1 + 1)), (by first | rfl | (simp; done) | (simp [*]; done)), H', ⟨by have := HK1.out; omega⟩, ⟨by (with_reducible repeat (first | apply Kd.R_alloc | apply Kd.R_drewN | apply Kd.R_drew)); exact Kd.R_mono HO120.out (fun _ hk => hk.2)⟩, ⟨by (with_reducible repeat (first | apply Kd.R_alloc | apply Kd.R_drewN | apply Kd.R_drew)); exact Kd.R_mono HO126.out (fun _ hk => hk.2.1)⟩, ⟨oK BK101.out⟩, ⟨oK BK102.out⟩, ⟨oB2 HB.out GE101.out GE102.out⟩⟩
           ·rw [if_neg c31] at H
            exact absurd H (by simp)
          ·rw [if_neg c30] at H
           exact absurd H (by simp)
         ·rw [if_neg c29] at H
          exact absurd H (by simp)
       ·rw [if_neg c27] at H
        clear c27
        by_cases c44 : x9_1 = 2
        ·rw [if_pos c44] at H
         have c44b0 : Int.toNat x9_1 = 2 := by rw [c44]; rfl
         have c44b1 := eq_true (show 0 ≤ x9_1 by rw [c44]; decide)
         have c44b2 := eq_true (show x9_1 < 3 by rw [c44]; decide)
         have c44b3 := eq_true (show x9_1 < 4 by rw [c44]; decide)
         have c44w : wrap64 (x9_1 + 1) = x9_1 + 1 := by rw [c44]; unfold wrap64; decide
         clear c44
         by_cases c45 : (wrap64 ((wrap64 (a1_2)) + 1)) = 0
         ·rw [if_pos c45] at H
          exact absurd H (by simp)
         ·rw [if_neg c45] at H
          have c45b0 : ((wrap64 ((wrap64 (a1_2)) + 1)) == 0) = false := beq_eq_false_iff_ne.mpr c45
          have c45b1 : ((wrap64 ((wrap64 (a1_2)) + 1)) != 0) = true := bne_iff_ne.mpr c45
          obtain ⟨y127, hy127⟩ : ∃ y_ : List Int, y_ = (([wrap64 ((wrap64 (a1_0)) + (Int.tmod (wrap64 (a1_5)) (wrap64 ((wrap64 (a1_2)) + 1))))] : List Int)) := ⟨_, rfl⟩
          replace H : (if x7_1.length + y127.length < 17592186044416 then (if x9_1 < 4 then ((some (([wrap64 ((wrap64 (Int.tmod a1_8 16)) + 1)] : List Int) : List Int)).bind fun y133 => (if x8_1.length + y133.length < 17592186044416 then (rudderlaw12_VoteBounded.l0 k1 (wrap64 (a1_0)) (wrap64 ((wrap64 (a1_0)) + (wrap64 (a1_2)))) (x7_1 ++ y127) (x8_1 ++ y133) (wrap64 (x9_1 + 1)) a0_0 a0_1 a0_2 a1_0 a1_1 a1_2 a1_3 a1_4 a1_5 a1_6 a1_7 a1_8 a1_9 a1_10) else (none))) else (none)) else (none)) = some r := by first | (rw [hy127]; with_reducible exact H) | (have H2_ := (Option.bind_some _ _).symm.trans H; rw [hy127]; with_reducible exact H2_) | (have H2_ := (Option.bind_some _ _).symm.trans H; with_reducible exact H2_) | with_reducible exact H | (rw [hy127]; exact H) | exact H
          have Ny127 := Aside0.mk hy127
          clear hy127
          by_cases c46 : x7_1.length + y127.length < 17592186044416
          ·rw [if_pos c46] at H
           have LMc46 := Aside0.mk c46
           clear c46
           obtain ⟨y130, hy130⟩ : ∃ y_ : List Int, y_ = (x7_1 ++ y127) := ⟨_, rfl⟩
           replace H : (if x9_1 < 4 then ((some (([wrap64 ((wrap64 (Int.tmod a1_8 16)) + 1)] : List Int) : List Int)).bind fun y133 => (if x8_1.length + y133.length < 17592186044416 then (rudderlaw12_VoteBounded.l0 k1 (wrap64 (a1_0)) (wrap64 ((wrap64 (a1_0)) + (wrap64 (a1_2)))) y130 (x8_1 ++ y133) (wrap64 (x9_1 + 1)) a0_0 a0_1 a0_2 a1_0 a1_1 a1_2 a1_3 a1_4 a1_5 a1_6 a1_7 a1_8 a1_9 a1_10) else (none))) else (none)) = some r := by first | (rw [hy130]; with_reducible exact H) | (have H2_ := (Option.bind_some _ _).symm.trans H; rw [hy130]; with_reducible exact H2_) | (have H2_ := (Option.bind_some _ _).symm.trans H; with_reducible exact H2_) | with_reducible exact H | (rw [hy130]; exact H) | exact H
           have Ny130 := Aside0.mk hy130
           clear hy130
           by_cases c47 : x9_1 < 4
           ·rw [if_pos c47] at H
            have c47b0 : decide (x9_1 < 4) = true := decide_eq_true c47
            clear c47
            obtain ⟨y133, hy133⟩ : ∃ y_ : List Int, y_ = (([wrap64 ((wrap64 (Int.tmod a1_8 16)) + 1)] : List Int)) := ⟨_, rfl⟩
            replace H : (if x8_1.length + y133.length < 17592186044416 then (rudderlaw12_VoteBounded.l0 k1 (wrap64 (a1_0)) (wrap64 ((wrap64 (a1_0)) + (wrap64 (a1_2)))) y130 (x8_1 ++ y133) (wrap64 (x9_1 + 1)) a0_0 a0_1 a0_2 a1_0 a1_1 a1_2 a1_3 a1_4 a1_5 a1_6 a1_7 a1_8 a1_9 a1_10) else (none)) = some r := by first | (rw [hy133]; with_reducible exact H) | (have H2_ := (Option.bind_some _ _).symm.trans H; rw [hy133]; with_reducible exact H2_) | (have H2_ := (Option.bind_some _ _).symm.trans H; with_reducible exact H2_) | with_reducible exact H | (rw [hy133]; exact H) | exact H
            have Ny133 := Aside0.mk hy133
            clear hy133
            by_cases c48 : x8_1.length + y133.length < 17592186044416
            ·rw [if_pos c48] at H
             have LMc48 := Aside0.mk c48
             clear c48
             obtain ⟨y136, hy136⟩ : ∃ y_ : List Int, y_ = (x8_1 ++ y133) := ⟨_, rfl⟩
             replace H : (rudderlaw12_VoteBounded.l0 k1 (wrap64 (a1_0)) (wrap64 ((wrap64 (a1_0)) + (wrap64 (a1_2)))) y130 y136 (wrap64 (x9_1 + 1)) a0_0 a0_1 a0_2 a1_0 a1_1 a1_2 a1_3 a1_4 a1_5 a1_6 a1_7 a1_8 a1_9 a1_10) = some r := by first | (rw [hy136]; with_reducible exact H) | (have H2_ := (Option.bind_some _ _).symm.trans H; rw [hy136]; with_reducible exact H2_) | (have H2_ := (Option.bind_some _ _).symm.trans H; with_reducible exact H2_) | with_reducible exact H | (rw [hy136]; exact H) | exact H
             have Ny136 := Aside0.mk hy136
             clear hy136
             as_aux_lemma =>
              have H' := Aside0.mk H
              clear H
              have hnb49 := NB102_101.out
              have hnc49 := NB101_102.out
              have hcz50_0 : wr.cell? ⟨gb102, 0, none⟩ = some (.int .i32 a1_0) := (blk_cell BK102.out 0).trans rfl
              have hcz50_1 : wr.cell? ⟨gb102, 1, none⟩ = some (.int .i32 a1_1) := (blk_cell BK102.out 1).trans rfl
              have hcz50_2 : wr.cell? ⟨gb102, 2, none⟩ = some (.int .u16 a1_2) := (blk_cell BK102.out 2).trans rfl
              have hcz50_3 : wr.cell? ⟨gb102, 3, none⟩ = some (.int .u16 a1_3) := (blk_cell BK102.out 3).trans rfl
              have hcz50_4 : wr.cell? ⟨gb102, 4, none⟩ = some (.int .u16 a1_4) := (blk_cell BK102.out 4).trans rfl
              have hcz50_5 : wr.cell? ⟨gb102, 5, none⟩ = some (.int .u16 a1_5) := (blk_cell BK102.out 5).trans rfl
              have hcz50_6 : wr.cell? ⟨gb102, 6, none⟩ = some (.int .u8 a1_6) := (blk_cell BK102.out 6).trans rfl
              have hcz50_7 : wr.cell? ⟨gb102, 7, none⟩ = some (.int .u8 a1_7) := (blk_cell BK102.out 7).trans rfl
              have hcz50_8 : wr.cell? ⟨gb102, 8, none⟩ = some (.int .u8 a1_8) := (blk_cell BK102.out 8).trans rfl
              have hcz50_9 : wr.cell? ⟨gb102, 9, none⟩ = some (.int .u8 a1_9) := (blk_cell BK102.out 9).trans rfl
              have hcz50_10 : wr.cell? ⟨gb102, 10, none⟩ = some (.int .u8 a1_10) := (blk_cell BK102.out 10).trans rfl
              try go_wp2
              have n0_ := Aside0.mk (Kd.R_drew HO_7.out)
              have n1_ := Aside0.mk (Kd.R_drew HO_8.out)
              have n2_ := Aside0.mk (blk_drew BK101.out)
              have n3_ := Aside0.mk (blk_drew BK102.out)
              have n4_ := Aside0.mk (below_drew1 HB.out)
              clear HO_7
              clear HO_8
              clear BK101
              clear BK102
              clear HB
              have HO_7 := n0_
              have HO_8 := n1_
              have BK101 := n2_
              have BK102 := n3_
              have HB := n4_
              clear n0_ n1_ n2_ n3_ n4_
              refine start_ (n := 16) (S := fun w' => w'.cell? ⟨gb102, 0, none⟩ = some (.int .i32 a1_0) ∧ w'.cell? ⟨gb102, 1, none⟩ = some (.int .i32 a1_1) ∧ w'.cell? ⟨gb102, 2, none⟩ = some (.int .u16 a1_2) ∧ w'.cell? ⟨gb102, 3, none⟩ = some (.int .u16 a1_3) ∧ w'.cell? ⟨gb102, 4, none⟩ = some (.int .u16 a1_4) ∧ w'.cell? ⟨gb102, 5, none⟩ = some (.int .u16 a1_5) ∧ w'.cell? ⟨gb102, 6, none⟩ = some (.int .u8 a1_6) ∧ w'.cell? ⟨gb102, 7, none⟩ = some (.int .u8 a1_7) ∧ w'.cell? ⟨gb102, 8, none⟩ = some (.int .u8 a1_8) ∧ w'.cell? ⟨gb102, 9, none⟩ = some (.int .u8 a1_9) ∧ w'.cell? ⟨gb102, 10, none⟩ = some (.int .u8 a1_10)) (ds := []) #[false, false, false, false, false, false, false, false, false, false, false, false, false, false, false, false] (by kernel_rfl) rfl rfl ⟨(blk_cell BK102.out 0).trans rfl, (blk_cell BK102.out 1).trans rfl, (blk_cell BK102.out 2).trans rfl, (blk_cell BK102.out 3).trans rfl, (blk_cell BK102.out 4).trans rfl, (blk_cell BK102.out 5).trans rfl, (blk_cell BK102.out 6).trans rfl, (blk_cell BK102.out 7).trans rfl, (blk_cell BK102.out 8).trans rfl, (blk_cell BK102.out 9).trans rfl, (blk_cell BK102.out 10).trans rfl⟩ (fun hHeld => ?_); refine with_tabW rudderlaw12_VoteBounded.tab8 rudderlaw12_VoteBounded.bits8 (fun HT_ HW_ => ?_)
              generalize wr.drew = w51 at HO_7 HO_8 BK101 BK102 HB hHeld ⊢
              refine pure_ (i := 0) (N := some 34) (v := ?_) (a' := ?_) #[true, false, false, false, false, false, false, false, false, false, false, false, false, false, false, false] rfl rfl (any_of HT_.out (by kernel_rfl)) (fun _ _ _ h => h) (Or.inl ⟨by rfl, ?_⟩) ?_ ?_
              rotate_left
              ·intro w'
               go_simp
               with_reducible rfl
              rotate_left
              ·simp only [putR, i64_w, i32_w]
               rfl
              refine pure_ (i := 1) (N := some 35) (v := ?_) (a' := ?_) #[true, true, false, false, false, false, false, false, false, false, false, false, false, false, false, false] rfl rfl (any_of HT_.out (by kernel_rfl)) (fun _ _ _ h => h) (Or.inl ⟨by rfl, ?_⟩) ?_ ?_
              rotate_left
              ·intro w'
               go_simp
               with_reducible rfl
              rotate_left
              ·simp only [putR, i64_w, i32_w]
               rfl
              refine pure_ (i := 2) (N := some 36) (v := ?_) (a' := ?_) #[true, true, true, false, false, false, false, false, false, false, false, false, false, false, false, false] rfl rfl (any_of HT_.out (by kernel_rfl)) (fun _ _ _ h => h) (Or.inl ⟨by rfl, ?_⟩) ?_ ?_
              rotate_left
              ·intro w'
               go_simp
               with_reducible rfl
              rotate_left
              ·simp only [putR, i64_w, i32_w]
               rfl
              refine pure_ (i := 3) (N := some 37) (v := ?_) (a' := ?_) #[true, true, true, true, false, false, false, false, false, false, false, false, false, false, false, false] rfl rfl (any_of HT_.out (by kernel_rfl)) (fun _ _ _ h => h) (Or.inl ⟨by rfl, ?_⟩) ?_ ?_
              rotate_left
              ·intro w'
               go_simp
               with_reducible rfl
              rotate_left
              ·simp only [putR, i64_w, i32_w]
               rfl
              refine pure_ (i := 4) (N := some 38) (v := ?_) (a' := ?_) #[true, true, true, true, true, false, false, false, false, false, false, false, false, false, false, false] rfl rfl (any_of HT_.out (by kernel_rfl)) (fun _ _ _ h => h) (Or.inl ⟨by rfl, ?_⟩) ?_ ?_
              rotate_left
              ·intro w'
               go_simp
               with_reducible rfl
              rotate_left
              ·simp only [putR, i64_w, i32_w]
               rfl
              refine pure_ (i := 7) (N := some 41) (v := ?_) (a' := ?_) #[true, true, true, true, true, false, false, true, false, false, false, false, false, false, false, false] rfl rfl (any_of HT_.out (by kernel_rfl)) (fun _ _ _ h => h) (Or.inl ⟨by rfl, ?_⟩) ?_ ?_
              rotate_left
              ·intro w'
               go_simp
               with_reducible rfl
              rotate_left
              ·simp only [putR, i64_w, i32_w]
               rfl
              refine take_ (i := 5) (N := some 39) (v := ?_) (a' := ?_) #[true, true, true, true, true, true, false, true, false, false, false, false, false, false, false, false] rfl rfl (take_ofW HT_.out HW_.out (by kernel_rfl)) (fun _ _ _ h => h) (Or.inl ⟨by rfl, ?_⟩) hHeld ?_ ?_
              rotate_left
              ·rintro w' ⟨s0, s1, s2, s3, s4, s5, s6, s7, s8, s9, s10⟩
               go_simp
               with_reducible rfl
              rotate_left
              ·simp only [putR, i64_w, i32_w]
               rfl
              refine pure_ (i := 6) (N := some 40) (v := ?_) (a' := ?_) #[true, true, true, true, true, true, true, true, false, false, false, false, false, false, false, false] rfl rfl (any_of HT_.out (by kernel_rfl)) (fun _ _ _ h => h) (Or.inl ⟨by rfl, ?_⟩) ?_ ?_
              rotate_left
              ·intro w'
               go_simp
               with_reducible rfl
              rotate_left
              ·simp only [putR, i64_w, i32_w]
               rfl
              refine take_ (i := 8) (N := some 42) (v := ?_) (a' := ?_) #[true, true, true, true, true, true, true, true, true, false, false, false, false, false, false, false] rfl rfl (take_ofW HT_.out HW_.out (by kernel_rfl)) (fun _ _ _ h => h) (Or.inl ⟨by rfl, ?_⟩) hHeld ?_ ?_
              rotate_left
              ·rintro w' ⟨s0, s1, s2, s3, s4, s5, s6, s7, s8, s9, s10⟩
               go_simp
               with_reducible rfl
              rotate_left
              ·simp only [putR, i64_w, i32_w]
               rfl
              refine pure_ (i := 9) (N := some 43) (v := ?_) (a' := ?_) #[true, true, true, true, true, true, true, true, true, true, false, false, false, false, false, false] rfl rfl (any_of HT_.out (by kernel_rfl)) (fun _ _ _ h => h) (Or.inl ⟨by rfl, ?_⟩) ?_ ?_
              rotate_left
              ·intro w'
               go_simp
               with_reducible rfl
              rotate_left
              ·simp only [putR, i64_w, i32_w]
               rfl
              refine pure_ (i := 10) (N := some 44) (v := ?_) (a' := ?_) #[true, true, true, true, true, true, true, true, true, true, true, false, false, false, false, false] rfl rfl (any_of HT_.out (by kernel_rfl)) (fun _ _ _ h => h) (Or.inl ⟨by rfl, ?_⟩) ?_ ?_
              rotate_left
              ·intro w'
               go_simp
               with_reducible rfl
              rotate_left
              ·simp only [putR, i64_w, i32_w]
               rfl
              refine pure_ (i := 11) (N := some 45) (v := ?_) (a' := ?_) #[true, true, true, true, true, true, true, true, true, true, true, true, false, false, false, false] rfl rfl (any_of HT_.out (by kernel_rfl)) (fun _ _ _ h => h) (Or.inl ⟨by rfl, ?_⟩) ?_ ?_
              rotate_left
              ·intro w'
               go_simp
               with_reducible rfl
              rotate_left
              ·simp only [putR, i64_w, i32_w]
               rfl
              refine pure_ (i := 12) (N := some 46) (v := ?_) (a' := ?_) #[true, true, true, true, true, true, true, true, true, true, true, true, true, false, false, false] rfl rfl (any_of HT_.out (by kernel_rfl)) (fun _ _ _ h => h) (Or.inl ⟨by rfl, ?_⟩) ?_ ?_
              rotate_left
              ·intro w'
               go_simp
               with_reducible rfl
              rotate_left
              ·simp only [putR, i64_w, i32_w]
               rfl
              refine one_ (i := 13) (N := some 47) #[true, true, true, true, true, true, true, true, true, true, true, true, true, true, false, false] rfl rfl (one_of HT_.out (by kernel_rfl)) (by decide) (fun K hK => ?_)
              refine Kd.R_lit_step (Kd.int .i64) _ 3 ?hg (N := 47) ?hd (xs := ([wrap64 ((wrap64 (a1_0)) + (Int.tmod (wrap64 (a1_5)) (wrap64 ((wrap64 (a1_2)) + 1))))] : List Int)) (inner := [.int .i64 (wrap64 ((wrap64 (a1_0)) + (Int.tmod (wrap64 (a1_5)) (wrap64 ((wrap64 (a1_2)) + 1)))))]) (ok := fun _ => True) (okp := fun _ => True) ?hr ?hp (fun _ hk => hk) trivial (Below.refl _ _) (Nat.le_refl _) (by simp) ?_; (case hd => rfl); (case hg => rfl); (case hr => first | (go_simp; done) | (go_simp; rfl)); (case hp => exact (Reps.one (show Kd.M (Kd.int .i64) _ _ _ (wrap64 ((wrap64 (a1_0)) + (Int.tmod (wrap64 (a1_5)) (wrap64 ((wrap64 (a1_2)) + 1))))) [.int .i64 (wrap64 ((wrap64 (a1_0)) + (Int.tmod (wrap64 (a1_5)) (wrap64 ((wrap64 (a1_2)) + 1)))))] from rfl) (Reps.none _ _)))
              intro v128 w52 ho53 hb hg_ hnew_
              clear hg_ hnew_
              (first | rw [← Ny127.out] at ho53 | (simp only [Int.reduceToNat] at ho53; rw [← Ny127.out] at ho53))
              have n0_ := Aside0.mk (Kd.R_elder' (oR HO_7.out) (Kd.R_base ho53) hb)
              have n1_ := Aside0.mk (Kd.R_elder' (oR HO_8.out) (Kd.R_base ho53) hb)
              have n2_ := Aside0.mk (Kd.R_lower (Kd.R_new' (Kd.R_new' ho53 (Kd.R_lt (oR HO_7.out))) (Kd.R_lt (oR HO_8.out))) (below_size (oB2 HB.out GE101.out GE102.out)))
              have n3_ := Aside0.mk (blk_below (g := gb101) (o := O35 a0_0 a0_1 a0_2) (oK BK101.out) hb)
              have n4_ := Aside0.mk (blk_below (g := gb102) (o := O47 a1_0 a1_1 a1_2 a1_3 a1_4 a1_5 a1_6 a1_7 a1_8 a1_9 a1_10) (oK BK102.out) hb)
              have n5_ := Aside0.mk (below_step (oB2 HB.out GE101.out GE102.out) hb)
              clear HO_7
              clear HO_8
              clear BK101
              clear BK102
              clear HB
              have HO_7 := n0_
              have HO_8 := n1_
              have HO129 := n2_
              have BK101 := n3_
              have BK102 := n4_
              have HB := n5_
              clear n0_ n1_ n2_ n3_ n4_ n5_
              clear hb ho53
              obtain ⟨Ao55, co55, eo55⟩ := Kd.R_slice HO129.out
              (first | subst eo55 | (injection eo55 with f1_ f2_ f3_; have f4_ := f1_.symm; have f5_ := f3_.symm; clear f1_ f2_ f3_; subst f4_; subst f5_))
              refine hK.out _ _ ⟨(blk_cell BK102.out 0).trans rfl, (blk_cell BK102.out 1).trans rfl, (blk_cell BK102.out 2).trans rfl, (blk_cell BK102.out 3).trans rfl, (blk_cell BK102.out 4).trans rfl, (blk_cell BK102.out 5).trans rfl, (blk_cell BK102.out 6).trans rfl, (blk_cell BK102.out 7).trans rfl, (blk_cell BK102.out 8).trans rfl, (blk_cell BK102.out 9).trans rfl, (blk_cell BK102.out 10).trans rfl⟩ (fun hHeld => ?_)
              clear hK K
              refine norm_ (a' := ?_) ?_ ?_
              rotate_left
              ·show Act.put _ (some 47) _ = _
               simp only [putR, i64_w, i32_w]
               rfl
              refine one_ (i := 14) (N := some 48) #[true, true, true, true, true, true, true, true, true, true, true, true, true, true, true, false] rfl rfl (one_of HT_.out (by kernel_rfl)) (by decide) (fun K hK => ?_)
              refine Kd.R_append_rows_step (Kd.int .i64) (w0 := w) w.heap.size (by rfl) (.tmp 34) (.tmp 47) 29 3 (.int .i64 0) 8 rfl Try.underlying29 info3 rfl (by decide) (by omega) u7 x7_1 y127 _ _ _ (fun k_ => some k_ ≠ (u8 : Value).ownBlock ∧ some k_ ≠ (.slice Ao55 y127.length co55 : Value).ownBlock) (fun _ => False) rfl rfl ?aO ?aR (fun _ _ h => h) (fun _ h => h.elim) ?aF ?aB ?aS ?aL ?_
              (case aR => repeat (first | exact (Kd.R_reads' HO129.out).2.2 | (with_reducible refine Kd.C_alloc ?_ _) | (with_reducible refine Kd.C_drewN ?_ _) | (with_reducible refine Kd.C_drew ?_)))
              (case aB => exact (oB2 HB.out GE101.out GE102.out))
              (case aF => exact (fun k_ hk => ⟨Kd.fresh' (Kd.R_lt (oR HO_8.out)) k_ hk, Kd.fresh' (Kd.R_lt (oR HO129.out)) k_ hk⟩))
              (case aO => exact (oR HO_7.out))
              (case aS => exact (below_size (oB2 HB.out GE101.out GE102.out)))
              (case aL => have := LMc46.out; omega)
              intro v131 w54 ho hb hg hat
              rw [← Ny130.out] at ho
              have n0_ := Aside0.mk (Kd.R_after (ok := (fun k_ => some k_ ≠ (.slice Ao55 y127.length co55 : Value).ownBlock)) (by (with_reducible repeat (first | apply Kd.R_alloc | apply Kd.R_drewN | apply Kd.R_drew)); exact Kd.R_mono HO_8.out (fun _ hk => ⟨hk.2, hk.1⟩)) hg hat)
              have n1_ := Aside0.mk (blk_grown (g := gb101) (o := O35 a0_0 a0_1 a0_2) (oK BK101.out) hg (Kd.R_ne HO_7.out BK101.out (by decide)))
              have n2_ := Aside0.mk (blk_grown (g := gb102) (o := O47 a1_0 a1_1 a1_2 a1_3 a1_4 a1_5 a1_6 a1_7 a1_8 a1_9 a1_10) (oK BK102.out) hg (Kd.R_ne HO_7.out BK102.out (by decide)))
              have n3_ := Aside0.mk (Kd.R_after (ok := (fun k_ => some k_ ≠ (u8 : Value).ownBlock)) (by (with_reducible repeat (first | apply Kd.R_alloc | apply Kd.R_drewN | apply Kd.R_drew)); exact Kd.R_mono HO129.out (fun _ hk => ⟨hk.2, hk.1.2⟩)) hg hat)
              have n4_ := Aside0.mk (hb)
              have n5_ := Aside0.mk (ho)
              clear HO_8
              clear BK101
              clear BK102
              clear HO129
              clear HB
              clear HO_7
              have HO_8 := n0_
              have BK101 := n1_
              have BK102 := n2_
              have HO129 := n3_
              have HB := n4_
              have HO132 := n5_
              clear n0_ n1_ n2_ n3_ n4_ n5_
              clear ho hb hg hat
              refine hK.out _ _ ⟨(blk_cell BK102.out 0).trans rfl, (blk_cell BK102.out 1).trans rfl, (blk_cell BK102.out 2).trans rfl, (blk_cell BK102.out 3).trans rfl, (blk_cell BK102.out 4).trans rfl, (blk_cell BK102.out 5).trans rfl, (blk_cell BK102.out 6).trans rfl, (blk_cell BK102.out 7).trans rfl, (blk_cell BK102.out 8).trans rfl, (blk_cell BK102.out 9).trans rfl, (blk_cell BK102.out 10).trans rfl⟩ (fun hHeld => ?_)
              clear hK K
              refine norm_ (a' := ?_) ?_ ?_
              rotate_left
              ·show Act.put _ (some 48) _ = _
               simp only [putR, i64_w, i32_w]
               rfl
              refine pure_ (i := 15) (N := some 7) (v := ?_) (a' := ?_) #[true, true, true, true, true, true, true, true, true, true, true, true, true, true, true, true] rfl rfl (any_of HT_.out (by kernel_rfl)) (fun _ _ _ h => h) (Or.inl ⟨by rfl, ?_⟩) ?_ ?_
              rotate_left
              ·intro w'
               go_simp
               with_reducible rfl
              rotate_left
              ·simp only [putR, i64_w, i32_w]
               rfl
              refine done_ (done_of HT_.out (by kernel_rfl)) ?_
              have hcz56_0 : w54.cell? ⟨gb102, 0, none⟩ = some (.int .i32 a1_0) := (blk_cell BK102.out 0).trans rfl
              have hcz56_1 : w54.cell? ⟨gb102, 1, none⟩ = some (.int .i32 a1_1) := (blk_cell BK102.out 1).trans rfl
              have hcz56_2 : w54.cell? ⟨gb102, 2, none⟩ = some (.int .u16 a1_2) := (blk_cell BK102.out 2).trans rfl
              have hcz56_3 : w54.cell? ⟨gb102, 3, none⟩ = some (.int .u16 a1_3) := (blk_cell BK102.out 3).trans rfl
              have hcz56_4 : w54.cell? ⟨gb102, 4, none⟩ = some (.int .u16 a1_4) := (blk_cell BK102.out 4).trans rfl
              have hcz56_5 : w54.cell? ⟨gb102, 5, none⟩ = some (.int .u16 a1_5) := (blk_cell BK102.out 5).trans rfl
              have hcz56_6 : w54.cell? ⟨gb102, 6, none⟩ = some (.int .u8 a1_6) := (blk_cell BK102.out 6).trans rfl
              have hcz56_7 : w54.cell? ⟨gb102, 7, none⟩ = some (.int .u8 a1_7) := (blk_cell BK102.out 7).trans rfl
              have hcz56_8 : w54.cell? ⟨gb102, 8, none⟩ = some (.int .u8 a1_8) := (blk_cell BK102.out 8).trans rfl
              have hcz56_9 : w54.cell? ⟨gb102, 9, none⟩ = some (.int .u8 a1_9) := (blk_cell BK102.out 9).trans rfl
              have hcz56_10 : w54.cell? ⟨gb102, 10, none⟩ = some (.int .u8 a1_10) := (blk_cell BK102.out 10).trans rfl
              try go_wp2_with (first | ((with_reducible refine gate_dst (N := 57) rfl ?_); refine Kd.R_lit (Kd.int .i64) _ 3 ?hg (N := 57) ?hd (xs := ([wrap64 ((wrap64 (Int.tmod a1_8 16)) + 1)] : List Int)) (inner := [.int .i64 (wrap64 ((wrap64 (Int.tmod a1_8 16)) + 1))]) (ok := fun _ => True) (okp := fun _ => True) ?hr ?hp (fun _ hk => hk) trivial (Below.refl _ _) (Nat.le_refl _) (by simp) ?_; (case hd => rfl); (case hg => rfl); (case hr => first | (go_simp; done) | (go_simp; rfl)); (case hp => exact (Reps.one (show Kd.M (Kd.int .i64) _ _ _ (wrap64 ((wrap64 (Int.tmod a1_8 16)) + 1)) [.int .i64 (wrap64 ((wrap64 (Int.tmod a1_8 16)) + 1))] from rfl) (Reps.none _ _))); intro v134 w57 ho58 hb hg_ hnew_; clear hg_ hnew_; (first | rw [← Ny133.out] at ho58 | (simp only [Int.reduceToNat] at ho58; rw [← Ny133.out] at ho58)); have n0_ := Aside0.mk (Kd.R_elder' (oR HO_8.out) (Kd.R_base ho58) hb); have n1_ := Aside0.mk (Kd.R_elder' (oR HO129.out) (Kd.R_base ho58) hb); have n2_ := Aside0.mk (Kd.R_elder' (oR HO132.out) (Kd.R_base ho58) hb); have n3_ := Aside0.mk (Kd.R_lower (Kd.R_new' (Kd.R_new' (Kd.R_new' ho58 (Kd.R_lt (oR HO_8.out))) (Kd.R_lt (oR HO129.out))) (Kd.R_lt (oR HO132.out))) (below_size (oB2 HB.out GE101.out GE102.out))); have n4_ := Aside0.mk (blk_below (g := gb101) (o := O35 a0_0 a0_1 a0_2) (oK BK101.out) hb); have n5_ := Aside0.mk (blk_below (g := gb102) (o := O47 a1_0 a1_1 a1_2 a1_3 a1_4 a1_5 a1_6 a1_7 a1_8 a1_9 a1_10) (oK BK102.out) hb); have n6_ := Aside0.mk (below_step (oB2 HB.out GE101.out GE102.out) hb); clear HO_8; clear HO129; clear HO132; clear BK101; clear BK102; clear HB; have HO_8 := n0_; have HO129 := n1_; have HO132 := n2_; have HO135 := n3_; have BK101 := n4_; have BK102 := n5_; have HB := n6_; clear n0_ n1_ n2_ n3_ n4_ n5_ n6_; clear hb ho58; obtain ⟨Ao60, co60, eo60⟩ := Kd.R_slice HO135.out; subst eo60) | ((with_reducible refine gate_builtin (b := .append) (xs := #[.tmp 49, .tmp 57]) rfl ?_); at_builtin; refine Kd.R_append_rows (Kd.int .i64) (w0 := w) w.heap.size rfl (.tmp 49) (.tmp 57) 29 3 (.int .i64 0) 8 rfl Try.underlying29 info3 rfl (by decide) (by omega) u8 x8_1 y133 _ _ _ (fun k_ => some k_ ≠ (.slice Ao55 y127.length co55 : Value).ownBlock ∧ some k_ ≠ (v131 : Value).ownBlock ∧ some k_ ≠ (.slice Ao60 y133.length co60 : Value).ownBlock) (fun _ => False) rfl rfl ?aO ?aR (fun _ _ h => h) (fun _ h => h.elim) ?aF ?aB ?aS ?aL ?_; (case aR => repeat (first | exact (Kd.R_reads' HO135.out).2.2 | (with_reducible refine Kd.C_alloc ?_ _) | (with_reducible refine Kd.C_drewN ?_ _) | (with_reducible refine Kd.C_drew ?_))); (case aB => exact (oB2 HB.out GE101.out GE102.out)); (case aF => exact (fun k_ hk => ⟨Kd.fresh' (Kd.R_lt (oR HO129.out)) k_ hk, Kd.fresh' (Kd.R_lt (oR HO132.out)) k_ hk, Kd.fresh' (Kd.R_lt (oR HO135.out)) k_ hk⟩)); (case aO => exact (by (with_reducible repeat (first | apply Kd.R_alloc | apply Kd.R_drewN | apply Kd.R_drew)); exact Kd.R_mono HO_8.out (fun _ hk => ⟨hk.1.1, ⟨hk.1.2, hk.2⟩⟩))); (case aS => exact (below_size (oB2 HB.out GE101.out GE102.out))); (case aL => have := LMc48.out; omega); intro v137 w59 ho hb hg hat; rw [← Ny136.out] at ho; have n0_ := Aside0.mk (blk_grown (g := gb101) (o := O35 a0_0 a0_1 a0_2) (oK BK101.out) hg (Kd.R_ne HO_8.out BK101.out (by decide))); have n1_ := Aside0.mk (blk_grown (g := gb102) (o := O47 a1_0 a1_1 a1_2 a1_3 a1_4 a1_5 a1_6 a1_7 a1_8 a1_9 a1_10) (oK BK102.out) hg (Kd.R_ne HO_8.out BK102.out (by decide))); have n2_ := Aside0.mk (Kd.R_after (ok := (fun k_ => some k_ ≠ (v131 : Value).ownBlock ∧ some k_ ≠ (.slice Ao60 y133.length co60 : Value).ownBlock)) (by (with_reducible repeat (first | apply Kd.R_alloc | apply Kd.R_drewN | apply Kd.R_drew)); exact Kd.R_mono HO129.out (fun _ hk => ⟨⟨hk.1.2, hk.2⟩, hk.1.1⟩)) hg hat); have n3_ := Aside0.mk (Kd.R_after (ok := (fun k_ => some k_ ≠ (.slice Ao55 y127.length co55 : Value).ownBlock ∧ some k_ ≠ (.slice Ao60 y133.length co60 : Value).ownBlock)) (by (with_reducible repeat (first | apply Kd.R_alloc | apply Kd.R_drewN | apply Kd.R_drew)); exact Kd.R_mono HO132.out (fun _ hk => ⟨⟨hk.1.2, hk.2⟩, hk.1.1⟩)) hg hat); have n4_ := Aside0.mk (Kd.R_after (ok := (fun k_ => some k_ ≠ (.slice Ao55 y127.length co55 : Value).ownBlock ∧ some k_ ≠ (v131 : Value).ownBlock)) (by (with_reducible repeat (first | apply Kd.R_alloc | apply Kd.R_drewN | apply Kd.R_drew)); exact Kd.R_mono HO135.out (fun _ hk => ⟨⟨hk.1.2, hk.2⟩, hk.1.1.2⟩)) hg hat); have n5_ := Aside0.mk (hb); have n6_ := Aside0.mk (ho); clear BK101; clear BK102; clear HO129; clear HO132; clear HO135; clear HB; clear HO_8; have BK101 := n0_; have BK102 := n1_; have HO129 := n2_; have HO132 := n3_; have HO135 := n4_; have HB := n5_; have HO138 := n6_; clear n0_ n1_ n2_ n3_ n4_ n5_ n6_; clear ho hb hg hat))
              go_roundg k1
              case measure => have := HK1.out; omega
              case rel => exact ⟨(y130), (y136), (wrap64 (x9_1 + 1)), (by first | rfl | (simp; done) | (simp [*]; done)), H', ⟨by have := HK1.out; omega⟩, ⟨by (with_reducible repeat (first | apply Kd.R_alloc | apply Kd.R_drewN | apply Kd.R_drew)); exact Kd.R_mono HO132.out (fun _ hk => hk.2)⟩, ⟨by (with_reducible repeat (first | apply Kd.R_alloc | apply Kd.R_drewN | apply Kd.R_drew)); exact Kd.R_mono HO138.out (fun _ hk => hk.2.1)⟩, ⟨oK BK101.out⟩, ⟨oK BK102.out⟩, ⟨oB2 HB.out GE101.out GE102.out⟩⟩
            ·rw [if_neg c48] at H
             exact absurd H (by simp)
           ·rw [if_neg c47] at H
            exact absurd H (by simp)
          ·rw [if_neg c46] at H
           exact absurd H (by simp)
        ·rw [if_neg c44] at H
         exact absurd H (by simp)
     ·rw [if_neg c9] at H
      exact absurd H (by simp)
    ·rw [if_neg c8] at H
     exact absurd H (by simp)
   ·rw [if_neg c7] at H
    have c7b0 : decide (x9_1 < (wrap64 (2 + (wrap64 (Int.tmod a1_10 2))))) = false := decide_eq_false c7
    clear c7
    by_cases c61 : (wrap64 ((x7_1.length : Int) + 1)) = 0
    ·rw [if_pos c61] at H
     exact absurd H (by simp)
    ·rw [if_neg c61] at H
     have c61b0 : ((wrap64 ((x7_1.length : Int) + 1)) == 0) = false := beq_eq_false_iff_ne.mpr c61
     have c61b1 : ((wrap64 ((x7_1.length : Int) + 1)) != 0) = true := bne_iff_ne.mpr c61
     obtain ⟨y139, hy139⟩ : ∃ y_ : List Int, y_ = (([] : List Int)) := ⟨_, rfl⟩
     replace H : (if 0 ≤ (Int.tmod (wrap64 (a1_10)) (wrap64 ((x7_1.length : Int) + 1))) then (if (Int.tmod (wrap64 (a1_10)) (wrap64 ((x7_1.length : Int) + 1))) ≤ (x7_1.length : Int) then ((some (x7_1.take ((Int.tmod (wrap64 (a1_10)) (wrap64 ((x7_1.length : Int) + 1))) : Int).toNat : List Int)).bind fun y142 => (if y139.length + y142.length < 17592186044416 then ((some (y139 ++ y142 : List Int)).bind fun y146 => ((some (([wrap64 (a1_1)] : List Int) : List Int)).bind fun y149 => (if y146.length + y149.length < 17592186044416 then ((some (y146 ++ y149 : List Int)).bind fun y152 => ((some (x7_1.drop ((Int.tmod (wrap64 (a1_10)) (wrap64 ((x7_1.length : Int) + 1))) : Int).toNat : List Int)).bind fun y155 => (if y152.length + y155.length < 17592186044416 then ((some (([] : List Int) : List Int)).bind fun y162 => (if (Int.tmod (wrap64 (a1_10)) (wrap64 ((x7_1.length : Int) + 1))) ≤ (x8_1.length : Int) then ((some (x8_1.take ((Int.tmod (wrap64 (a1_10)) (wrap64 ((x7_1.length : Int) + 1))) : Int).toNat : List Int)).bind fun y165 => (if y162.length + y165.length < 17592186044416 then ((some (y162 ++ y165 : List Int)).bind fun y169 => ((some (([wrap64 ((wrap64 (Int.tmod a1_9 16)) + 1)] : List Int) : List Int)).bind fun y172 => (if y169.length + y172.length < 17592186044416 then ((some (y169 ++ y172 : List Int)).bind fun y175 => ((some (x8_1.drop ((Int.tmod (wrap64 (a1_10)) (wrap64 ((x7_1.length : Int) + 1))) : Int).toNat : List Int)).bind fun y178 => (if y175.length + y178.length < 17592186044416 then ((vote_Vote.f a0_0 a0_1 a0_2 (y152 ++ y155) (y175 ++ y178)).bind fun bt185 => ((vote_Right.f a0_0 a0_1 a0_2).bind fun t187 => (if t187 = true then (if (wrap64 (a1_0)) ≥ a0_0 then (if (wrap64 (a1_0)) ≤ a0_1 then (rudderlaw12_VoteBounded.j1 k1 (wrap64 (a1_0)) (wrap64 ((wrap64 (a1_0)) + (wrap64 (a1_2)))) bt185.1 bt185.2 true a0_0 a0_1 a0_2) else (if (wrap64 ((wrap64 (a1_0)) + (wrap64 (a1_2)))) ≥ a0_0 then (rudderlaw12_VoteBounded.j1 k1 (wrap64 (a1_0)) (wrap64 ((wrap64 (a1_0)) + (wrap64 (a1_2)))) bt185.1 bt185.2 (decide ((wrap64 ((wrap64 (a1_0)) + (wrap64 (a1_2)))) ≤ a0_1)) a0_0 a0_1 a0_2) else (rudderlaw12_VoteBounded.j1 k1 (wrap64 (a1_0)) (wrap64 ((wrap64 (a1_0)) + (wrap64 (a1_2)))) bt185.1 bt185.2 false a0_0 a0_1 a0_2))) else (if (wrap64 ((wrap64 (a1_0)) + (wrap64 (a1_2)))) ≥ a0_0 then (rudderlaw12_VoteBounded.j1 k1 (wrap64 (a1_0)) (wrap64 ((wrap64 (a1_0)) + (wrap64 (a1_2)))) bt185.1 bt185.2 (decide ((wrap64 ((wrap64 (a1_0)) + (wrap64 (a1_2)))) ≤ a0_1)) a0_0 a0_1 a0_2) else (rudderlaw12_VoteBounded.j1 k1 (wrap64 (a1_0)) (wrap64 ((wrap64 (a1_0)) + (wrap64 (a1_2)))) bt185.1 bt185.2 false a0_0 a0_1 a0_2))) else (rudderlaw12_VoteBounded.j1 k1 (wrap64 (a1_0)) (wrap64 ((wrap64 (a1_0)) + (wrap64 (a1_2)))) bt185.1 bt185.2 false a0_0 a0_1 a0_2)))) else (none)))) else (none)))) else (none))) else (none))) else (none)))) else (none)))) else (none))) else (none)) else (none)) = some r := by first | (rw [hy139]; with_reducible exact H) | (have H2_ := (Option.bind_some _ _).symm.trans H; rw [hy139]; with_reducible exact H2_) | (have H2_ := (Option.bind_some _ _).symm.trans H; with_reducible exact H2_) | with_reducible exact H | (rw [hy139]; exact H) | exact H
     have Ny139 := Aside0.mk hy139
     clear hy139
     obtain ⟨ji62, hji62⟩ : ∃ j_ : Int, (Int.tmod (wrap64 (a1_10)) (wrap64 ((x7_1.length : Int) + 1))) = j_ := ⟨_, rfl⟩
     replace H : (if 0 ≤ (ji62) then (if (ji62) ≤ (x7_1.length : Int) then ((some (x7_1.take ((ji62) : Int).toNat : List Int)).bind fun y142 => (if y139.length + y142.length < 17592186044416 then ((some (y139 ++ y142 : List Int)).bind fun y146 => ((some (([wrap64 (a1_1)] : List Int) : List Int)).bind fun y149 => (if y146.length + y149.length < 17592186044416 then ((some (y146 ++ y149 : List Int)).bind fun y152 => ((some (x7_1.drop ((ji62) : Int).toNat : List Int)).bind fun y155 => (if y152.length + y155.length < 17592186044416 then ((some (([] : List Int) : List Int)).bind fun y162 => (if (ji62) ≤ (x8_1.length : Int) then ((some (x8_1.take ((ji62) : Int).toNat : List Int)).bind fun y165 => (if y162.length + y165.length < 17592186044416 then ((some (y162 ++ y165 : List Int)).bind fun y169 => ((some (([wrap64 ((wrap64 (Int.tmod a1_9 16)) + 1)] : List Int) : List Int)).bind fun y172 => (if y169.length + y172.length < 17592186044416 then ((some (y169 ++ y172 : List Int)).bind fun y175 => ((some (x8_1.drop ((ji62) : Int).toNat : List Int)).bind fun y178 => (if y175.length + y178.length < 17592186044416 then ((vote_Vote.f a0_0 a0_1 a0_2 (y152 ++ y155) (y175 ++ y178)).bind fun bt185 => ((vote_Right.f a0_0 a0_1 a0_2).bind fun t187 => (if t187 = true then (if (wrap64 (a1_0)) ≥ a0_0 then (if (wrap64 (a1_0)) ≤ a0_1 then (rudderlaw12_VoteBounded.j1 k1 (wrap64 (a1_0)) (wrap64 ((wrap64 (a1_0)) + (wrap64 (a1_2)))) bt185.1 bt185.2 true a0_0 a0_1 a0_2) else (if (wrap64 ((wrap64 (a1_0)) + (wrap64 (a1_2)))) ≥ a0_0 then (rudderlaw12_VoteBounded.j1 k1 (wrap64 (a1_0)) (wrap64 ((wrap64 (a1_0)) + (wrap64 (a1_2)))) bt185.1 bt185.2 (decide ((wrap64 ((wrap64 (a1_0)) + (wrap64 (a1_2)))) ≤ a0_1)) a0_0 a0_1 a0_2) else (rudderlaw12_VoteBounded.j1 k1 (wrap64 (a1_0)) (wrap64 ((wrap64 (a1_0)) + (wrap64 (a1_2)))) bt185.1 bt185.2 false a0_0 a0_1 a0_2))) else (if (wrap64 ((wrap64 (a1_0)) + (wrap64 (a1_2)))) ≥ a0_0 then (rudderlaw12_VoteBounded.j1 k1 (wrap64 (a1_0)) (wrap64 ((wrap64 (a1_0)) + (wrap64 (a1_2)))) bt185.1 bt185.2 (decide ((wrap64 ((wrap64 (a1_0)) + (wrap64 (a1_2)))) ≤ a0_1)) a0_0 a0_1 a0_2) else (rudderlaw12_VoteBounded.j1 k1 (wrap64 (a1_0)) (wrap64 ((wrap64 (a1_0)) + (wrap64 (a1_2)))) bt185.1 bt185.2 false a0_0 a0_1 a0_2))) else (rudderlaw12_VoteBounded.j1 k1 (wrap64 (a1_0)) (wrap64 ((wrap64 (a1_0)) + (wrap64 (a1_2)))) bt185.1 bt185.2 false a0_0 a0_1 a0_2)))) else (none)))) else (none)))) else (none))) else (none))) else (none)))) else (none)))) else (none))) else (none)) else (none)) = some r := by first | (rw [hji62] at H; exact H) | (simp only [hji62] at H ⊢; exact H)
     by_cases c63 : 0 ≤ (ji62)
     ·rw [if_pos c63] at H
      have c63b0 := eq_true c63
      have c63b1 : decide (0 ≤ (ji62)) = true := decide_eq_true c63
      clear c63
      by_cases c64 : (ji62) ≤ (x7_1.length : Int)
      ·rw [if_pos c64] at H
       have c64b0 := eq_true c64
       have c64b1 : decide ((ji62) ≤ (x7_1.length : Int)) = true := decide_eq_true c64
       clear c64
       obtain ⟨y142, hy142⟩ : ∃ y_ : List Int, y_ = (x7_1.take ((ji62) : Int).toNat) := ⟨_, rfl⟩
       replace H : (if y139.length + y142.length < 17592186044416 then ((some (y139 ++ y142 : List Int)).bind fun y146 => ((some (([wrap64 (a1_1)] : List Int) : List Int)).bind fun y149 => (if y146.length + y149.length < 17592186044416 then ((some (y146 ++ y149 : List Int)).bind fun y152 => ((some (x7_1.drop ((ji62) : Int).toNat : List Int)).bind fun y155 => (if y152.length + y155.length < 17592186044416 then ((some (([] : List Int) : List Int)).bind fun y162 => (if (ji62) ≤ (x8_1.length : Int) then ((some (x8_1.take ((ji62) : Int).toNat : List Int)).bind fun y165 => (if y162.length + y165.length < 17592186044416 then ((some (y162 ++ y165 : List Int)).bind fun y169 => ((some (([wrap64 ((wrap64 (Int.tmod a1_9 16)) + 1)] : List Int) : List Int)).bind fun y172 => (if y169.length + y172.length < 17592186044416 then ((some (y169 ++ y172 : List Int)).bind fun y175 => ((some (x8_1.drop ((ji62) : Int).toNat : List Int)).bind fun y178 => (if y175.length + y178.length < 17592186044416 then ((vote_Vote.f a0_0 a0_1 a0_2 (y152 ++ y155) (y175 ++ y178)).bind fun bt185 => ((vote_Right.f a0_0 a0_1 a0_2).bind fun t187 => (if t187 = true then (if (wrap64 (a1_0)) ≥ a0_0 then (if (wrap64 (a1_0)) ≤ a0_1 then (rudderlaw12_VoteBounded.j1 k1 (wrap64 (a1_0)) (wrap64 ((wrap64 (a1_0)) + (wrap64 (a1_2)))) bt185.1 bt185.2 true a0_0 a0_1 a0_2) else (if (wrap64 ((wrap64 (a1_0)) + (wrap64 (a1_2)))) ≥ a0_0 then (rudderlaw12_VoteBounded.j1 k1 (wrap64 (a1_0)) (wrap64 ((wrap64 (a1_0)) + (wrap64 (a1_2)))) bt185.1 bt185.2 (decide ((wrap64 ((wrap64 (a1_0)) + (wrap64 (a1_2)))) ≤ a0_1)) a0_0 a0_1 a0_2) else (rudderlaw12_VoteBounded.j1 k1 (wrap64 (a1_0)) (wrap64 ((wrap64 (a1_0)) + (wrap64 (a1_2)))) bt185.1 bt185.2 false a0_0 a0_1 a0_2))) else (if (wrap64 ((wrap64 (a1_0)) + (wrap64 (a1_2)))) ≥ a0_0 then (rudderlaw12_VoteBounded.j1 k1 (wrap64 (a1_0)) (wrap64 ((wrap64 (a1_0)) + (wrap64 (a1_2)))) bt185.1 bt185.2 (decide ((wrap64 ((wrap64 (a1_0)) + (wrap64 (a1_2)))) ≤ a0_1)) a0_0 a0_1 a0_2) else (rudderlaw12_VoteBounded.j1 k1 (wrap64 (a1_0)) (wrap64 ((wrap64 (a1_0)) + (wrap64 (a1_2)))) bt185.1 bt185.2 false a0_0 a0_1 a0_2))) else (rudderlaw12_VoteBounded.j1 k1 (wrap64 (a1_0)) (wrap64 ((wrap64 (a1_0)) + (wrap64 (a1_2)))) bt185.1 bt185.2 false a0_0 a0_1 a0_2)))) else (none)))) else (none)))) else (none))) else (none))) else (none)))) else (none)))) else (none)) = some r := by first | (rw [hy142]; with_reducible exact H) | (have H2_ := (Option.bind_some _ _).symm.trans H; rw [hy142]; with_reducible exact H2_) | (have H2_ := (Option.bind_some _ _).symm.trans H; with_reducible exact H2_) | with_reducible exact H | (rw [hy142]; exact H) | exact H
       have Ny142 := Aside0.mk hy142
       clear hy142
       by_cases c65 : y139.length + y142.length < 17592186044416
       ·rw [if_pos c65] at H
        have LMc65 := Aside0.mk c65
        clear c65
        obtain ⟨y146, hy146⟩ : ∃ y_ : List Int, y_ = (y139 ++ y142) := ⟨_, rfl⟩
        replace H : ((some (([wrap64 (a1_1)] : List Int) : List Int)).bind fun y149 => (if y146.length + y149.length < 17592186044416 then ((some (y146 ++ y149 : List Int)).bind fun y152 => ((some (x7_1.drop ((ji62) : Int).toNat : List Int)).bind fun y155 => (if y152.length + y155.length < 17592186044416 then ((some (([] : List Int) : List Int)).bind fun y162 => (if (ji62) ≤ (x8_1.length : Int) then ((some (x8_1.take ((ji62) : Int).toNat : List Int)).bind fun y165 => (if y162.length + y165.length < 17592186044416 then ((some (y162 ++ y165 : List Int)).bind fun y169 => ((some (([wrap64 ((wrap64 (Int.tmod a1_9 16)) + 1)] : List Int) : List Int)).bind fun y172 => (if y169.length + y172.length < 17592186044416 then ((some (y169 ++ y172 : List Int)).bind fun y175 => ((some (x8_1.drop ((ji62) : Int).toNat : List Int)).bind fun y178 => (if y175.length + y178.length < 17592186044416 then ((vote_Vote.f a0_0 a0_1 a0_2 (y152 ++ y155) (y175 ++ y178)).bind fun bt185 => ((vote_Right.f a0_0 a0_1 a0_2).bind fun t187 => (if t187 = true then (if (wrap64 (a1_0)) ≥ a0_0 then (if (wrap64 (a1_0)) ≤ a0_1 then (rudderlaw12_VoteBounded.j1 k1 (wrap64 (a1_0)) (wrap64 ((wrap64 (a1_0)) + (wrap64 (a1_2)))) bt185.1 bt185.2 true a0_0 a0_1 a0_2) else (if (wrap64 ((wrap64 (a1_0)) + (wrap64 (a1_2)))) ≥ a0_0 then (rudderlaw12_VoteBounded.j1 k1 (wrap64 (a1_0)) (wrap64 ((wrap64 (a1_0)) + (wrap64 (a1_2)))) bt185.1 bt185.2 (decide ((wrap64 ((wrap64 (a1_0)) + (wrap64 (a1_2)))) ≤ a0_1)) a0_0 a0_1 a0_2) else (rudderlaw12_VoteBounded.j1 k1 (wrap64 (a1_0)) (wrap64 ((wrap64 (a1_0)) + (wrap64 (a1_2)))) bt185.1 bt185.2 false a0_0 a0_1 a0_2))) else (if (wrap64 ((wrap64 (a1_0)) + (wrap64 (a1_2)))) ≥ a0_0 then (rudderlaw12_VoteBounded.j1 k1 (wrap64 (a1_0)) (wrap64 ((wrap64 (a1_0)) + (wrap64 (a1_2)))) bt185.1 bt185.2 (decide ((wrap64 ((wrap64 (a1_0)) + (wrap64 (a1_2)))) ≤ a0_1)) a0_0 a0_1 a0_2) else (rudderlaw12_VoteBounded.j1 k1 (wrap64 (a1_0)) (wrap64 ((wrap64 (a1_0)) + (wrap64 (a1_2)))) bt185.1 bt185.2 false a0_0 a0_1 a0_2))) else (rudderlaw12_VoteBounded.j1 k1 (wrap64 (a1_0)) (wrap64 ((wrap64 (a1_0)) + (wrap64 (a1_2)))) bt185.1 bt185.2 false a0_0 a0_1 a0_2)))) else (none)))) else (none)))) else (none))) else (none))) else (none)))) else (none))) = some r := by first | (rw [hy146]; with_reducible exact H) | (have H2_ := (Option.bind_some _ _).symm.trans H; rw [hy146]; with_reducible exact H2_) | (have H2_ := (Option.bind_some _ _).symm.trans H; with_reducible exact H2_) | with_reducible exact H | (rw [hy146]; exact H) | exact H
        have Ny146 := Aside0.mk hy146
        clear hy146
        obtain ⟨y149, hy149⟩ : ∃ y_ : List Int, y_ = (([wrap64 (a1_1)] : List Int)) := ⟨_, rfl⟩
        replace H : (if y146.length + y149.length < 17592186044416 then ((some (y146 ++ y149 : List Int)).bind fun y152 => ((some (x7_1.drop ((ji62) : Int).toNat : List Int)).bind fun y155 => (if y152.length + y155.length < 17592186044416 then ((some (([] : List Int) : List Int)).bind fun y162 => (if (ji62) ≤ (x8_1.length : Int) then ((some (x8_1.take ((ji62) : Int).toNat : List Int)).bind fun y165 => (if y162.length + y165.length < 17592186044416 then ((some (y162 ++ y165 : List Int)).bind fun y169 => ((some (([wrap64 ((wrap64 (Int.tmod a1_9 16)) + 1)] : List Int) : List Int)).bind fun y172 => (if y169.length + y172.length < 17592186044416 then ((some (y169 ++ y172 : List Int)).bind fun y175 => ((some (x8_1.drop ((ji62) : Int).toNat : List Int)).bind fun y178 => (if y175.length + y178.length < 17592186044416 then ((vote_Vote.f a0_0 a0_1 a0_2 (y152 ++ y155) (y175 ++ y178)).bind fun bt185 => ((vote_Right.f a0_0 a0_1 a0_2).bind fun t187 => (if t187 = true then (if (wrap64 (a1_0)) ≥ a0_0 then (if (wrap64 (a1_0)) ≤ a0_1 then (rudderlaw12_VoteBounded.j1 k1 (wrap64 (a1_0)) (wrap64 ((wrap64 (a1_0)) + (wrap64 (a1_2)))) bt185.1 bt185.2 true a0_0 a0_1 a0_2) else (if (wrap64 ((wrap64 (a1_0)) + (wrap64 (a1_2)))) ≥ a0_0 then (rudderlaw12_VoteBounded.j1 k1 (wrap64 (a1_0)) (wrap64 ((wrap64 (a1_0)) + (wrap64 (a1_2)))) bt185.1 bt185.2 (decide ((wrap64 ((wrap64 (a1_0)) + (wrap64 (a1_2)))) ≤ a0_1)) a0_0 a0_1 a0_2) else (rudderlaw12_VoteBounded.j1 k1 (wrap64 (a1_0)) (wrap64 ((wrap64 (a1_0)) + (wrap64 (a1_2)))) bt185.1 bt185.2 false a0_0 a0_1 a0_2))) else (if (wrap64 ((wrap64 (a1_0)) + (wrap64 (a1_2)))) ≥ a0_0 then (rudderlaw12_VoteBounded.j1 k1 (wrap64 (a1_0)) (wrap64 ((wrap64 (a1_0)) + (wrap64 (a1_2)))) bt185.1 bt185.2 (decide ((wrap64 ((wrap64 (a1_0)) + (wrap64 (a1_2)))) ≤ a0_1)) a0_0 a0_1 a0_2) else (rudderlaw12_VoteBounded.j1 k1 (wrap64 (a1_0)) (wrap64 ((wrap64 (a1_0)) + (wrap64 (a1_2)))) bt185.1 bt185.2 false a0_0 a0_1 a0_2))) else (rudderlaw12_VoteBounded.j1 k1 (wrap64 (a1_0)) (wrap64 ((wrap64 (a1_0)) + (wrap64 (a1_2)))) bt185.1 bt185.2 false a0_0 a0_1 a0_2)))) else (none)))) else (none)))) else (none))) else (none))) else (none)))) else (none)) = some r := by first | (rw [hy149]; with_reducible exact H) | (have H2_ := (Option.bind_some _ _).symm.trans H; rw [hy149]; with_reducible exact H2_) | (have H2_ := (Option.bind_some _ _).symm.trans H; with_reducible exact H2_) | with_reducible exact H | (rw [hy149]; exact H) | exact H
        have Ny149 := Aside0.mk hy149
        clear hy149
        by_cases c66 : y146.length + y149.length < 17592186044416
        ·rw [if_pos c66] at H
         have LMc66 := Aside0.mk c66
         clear c66
         obtain ⟨y152, hy152⟩ : ∃ y_ : List Int, y_ = (y146 ++ y149) := ⟨_, rfl⟩
         replace H : ((some (x7_1.drop ((ji62) : Int).toNat : List Int)).bind fun y155 => (if y152.length + y155.length < 17592186044416 then ((some (([] : List Int) : List Int)).bind fun y162 => (if (ji62) ≤ (x8_1.length : Int) then ((some (x8_1.take ((ji62) : Int).toNat : List Int)).bind fun y165 => (if y162.length + y165.length < 17592186044416 then ((some (y162 ++ y165 : List Int)).bind fun y169 => ((some (([wrap64 ((wrap64 (Int.tmod a1_9 16)) + 1)] : List Int) : List Int)).bind fun y172 => (if y169.length + y172.length < 17592186044416 then ((some (y169 ++ y172 : List Int)).bind fun y175 => ((some (x8_1.drop ((ji62) : Int).toNat : List Int)).bind fun y178 => (if y175.length + y178.length < 17592186044416 then ((vote_Vote.f a0_0 a0_1 a0_2 (y152 ++ y155) (y175 ++ y178)).bind fun bt185 => ((vote_Right.f a0_0 a0_1 a0_2).bind fun t187 => (if t187 = true then (if (wrap64 (a1_0)) ≥ a0_0 then (if (wrap64 (a1_0)) ≤ a0_1 then (rudderlaw12_VoteBounded.j1 k1 (wrap64 (a1_0)) (wrap64 ((wrap64 (a1_0)) + (wrap64 (a1_2)))) bt185.1 bt185.2 true a0_0 a0_1 a0_2) else (if (wrap64 ((wrap64 (a1_0)) + (wrap64 (a1_2)))) ≥ a0_0 then (rudderlaw12_VoteBounded.j1 k1 (wrap64 (a1_0)) (wrap64 ((wrap64 (a1_0)) + (wrap64 (a1_2)))) bt185.1 bt185.2 (decide ((wrap64 ((wrap64 (a1_0)) + (wrap64 (a1_2)))) ≤ a0_1)) a0_0 a0_1 a0_2) else (rudderlaw12_VoteBounded.j1 k1 (wrap64 (a1_0)) (wrap64 ((wrap64 (a1_0)) + (wrap64 (a1_2)))) bt185.1 bt185.2 false a0_0 a0_1 a0_2))) else (if (wrap64 ((wrap64 (a1_0)) + (wrap64 (a1_2)))) ≥ a0_0 then (rudderlaw12_VoteBounded.j1 k1 (wrap64 (a1_0)) (wrap64 ((wrap64 (a1_0)) + (wrap64 (a1_2)))) bt185.1 bt185.2 (decide ((wrap64 ((wrap64 (a1_0)) + (wrap64 (a1_2)))) ≤ a0_1)) a0_0 a0_1 a0_2) else (rudderlaw12_VoteBounded.j1 k1 (wrap64 (a1_0)) (wrap64 ((wrap64 (a1_0)) + (wrap64 (a1_2)))) bt185.1 bt185.2 false a0_0 a0_1 a0_2))) else (rudderlaw12_VoteBounded.j1 k1 (wrap64 (a1_0)) (wrap64 ((wrap64 (a1_0)) + (wrap64 (a1_2)))) bt185.1 bt185.2 false a0_0 a0_1 a0_2)))) else (none)))) else (none)))) else (none))) else (none))) else (none))) = some r := by first | (rw [hy152]; with_reducible exact H) | (have H2_ := (Option.bind_some _ _).symm.trans H; rw [hy152]; with_reducible exact H2_) | (have H2_ := (Option.bind_some _ _).symm.trans H; with_reducible exact H2_) | with_reducible exact H | (rw [hy152]; exact H) | exact H
         have Ny152 := Aside0.mk hy152
         clear hy152
         have c67b0 := eq_true (of_decide_eq_true (by first | (with_reducible assumption) | assumption) : 0 ≤ (ji62))
         have c68b0 := eq_true (of_decide_eq_true (by first | (with_reducible assumption) | assumption) : (ji62) ≤ (x7_1.length : Int))
         obtain ⟨y155, hy155⟩ : ∃ y_ : List Int, y_ = (x7_1.drop ((ji62) : Int).toNat) := ⟨_, rfl⟩
         replace H : (if y152.length + y155.length < 17592186044416 then ((some (([] : List Int) : List Int)).bind fun y162 => (if (ji62) ≤ (x8_1.length : Int) then ((some (x8_1.take ((ji62) : Int).toNat : List Int)).bind fun y165 => (if y162.length + y165.length < 17592186044416 then ((some (y162 ++ y165 : List Int)).bind fun y169 => ((some (([wrap64 ((wrap64 (Int.tmod a1_9 16)) + 1)] : List Int) : List Int)).bind fun y172 => (if y169.length + y172.length < 17592186044416 then ((some (y169 ++ y172 : List Int)).bind fun y175 => ((some (x8_1.drop ((ji62) : Int).toNat : List Int)).bind fun y178 => (if y175.length + y178.length < 17592186044416 then ((vote_Vote.f a0_0 a0_1 a0_2 (y152 ++ y155) (y175 ++ y178)).bind fun bt185 => ((vote_Right.f a0_0 a0_1 a0_2).bind fun t187 => (if t187 = true then (if (wrap64 (a1_0)) ≥ a0_0 then (if (wrap64 (a1_0)) ≤ a0_1 then (rudderlaw12_VoteBounded.j1 k1 (wrap64 (a1_0)) (wrap64 ((wrap64 (a1_0)) + (wrap64 (a1_2)))) bt185.1 bt185.2 true a0_0 a0_1 a0_2) else (if (wrap64 ((wrap64 (a1_0)) + (wrap64 (a1_2)))) ≥ a0_0 then (rudderlaw12_VoteBounded.j1 k1 (wrap64 (a1_0)) (wrap64 ((wrap64 (a1_0)) + (wrap64 (a1_2)))) bt185.1 bt185.2 (decide ((wrap64 ((wrap64 (a1_0)) + (wrap64 (a1_2)))) ≤ a0_1)) a0_0 a0_1 a0_2) else (rudderlaw12_VoteBounded.j1 k1 (wrap64 (a1_0)) (wrap64 ((wrap64 (a1_0)) + (wrap64 (a1_2)))) bt185.1 bt185.2 false a0_0 a0_1 a0_2))) else (if (wrap64 ((wrap64 (a1_0)) + (wrap64 (a1_2)))) ≥ a0_0 then (rudderlaw12_VoteBounded.j1 k1 (wrap64 (a1_0)) (wrap64 ((wrap64 (a1_0)) + (wrap64 (a1_2)))) bt185.1 bt185.2 (decide ((wrap64 ((wrap64 (a1_0)) + (wrap64 (a1_2)))) ≤ a0_1)) a0_0 a0_1 a0_2) else (rudderlaw12_VoteBounded.j1 k1 (wrap64 (a1_0)) (wrap64 ((wrap64 (a1_0)) + (wrap64 (a1_2)))) bt185.1 bt185.2 false a0_0 a0_1 a0_2))) else (rudderlaw12_VoteBounded.j1 k1 (wrap64 (a1_0)) (wrap64 ((wrap64 (a1_0)) + (wrap64 (a1_2)))) bt185.1 bt185.2 false a0_0 a0_1 a0_2)))) else (none)))) else (none)))) else (none))) else (none))) else (none)) = some r := by first | (rw [hy155]; with_reducible exact H) | (have H2_ := (Option.bind_some _ _).symm.trans H; rw [hy155]; with_reducible exact H2_) | (have H2_ := (Option.bind_some _ _).symm.trans H; with_reducible exact H2_) | with_reducible exact H | (rw [hy155]; exact H) | exact H
         have Ny155 := Aside0.mk hy155
         clear hy155
         by_cases c69 : y152.length + y155.length < 17592186044416
         ·rw [if_pos c69] at H
          have LMc69 := Aside0.mk c69
          clear c69
          obtain ⟨y159, hy159⟩ : ∃ y_ : List Int, y_ = (y152 ++ y155) := ⟨_, rfl⟩
          replace H : ((some (([] : List Int) : List Int)).bind fun y162 => (if (ji62) ≤ (x8_1.length : Int) then ((some (x8_1.take ((ji62) : Int).toNat : List Int)).bind fun y165 => (if y162.length + y165.length < 17592186044416 then ((some (y162 ++ y165 : List Int)).bind fun y169 => ((some (([wrap64 ((wrap64 (Int.tmod a1_9 16)) + 1)] : List Int) : List Int)).bind fun y172 => (if y169.length + y172.length < 17592186044416 then ((some (y169 ++ y172 : List Int)).bind fun y175 => ((some (x8_1.drop ((ji62) : Int).toNat : List Int)).bind fun y178 => (if y175.length + y178.length < 17592186044416 then ((vote_Vote.f a0_0 a0_1 a0_2 y159 (y175 ++ y178)).bind fun bt185 => ((vote_Right.f a0_0 a0_1 a0_2).bind fun t187 => (if t187 = true then (if (wrap64 (a1_0)) ≥ a0_0 then (if (wrap64 (a1_0)) ≤ a0_1 then (rudderlaw12_VoteBounded.j1 k1 (wrap64 (a1_0)) (wrap64 ((wrap64 (a1_0)) + (wrap64 (a1_2)))) bt185.1 bt185.2 true a0_0 a0_1 a0_2) else (if (wrap64 ((wrap64 (a1_0)) + (wrap64 (a1_2)))) ≥ a0_0 then (rudderlaw12_VoteBounded.j1 k1 (wrap64 (a1_0)) (wrap64 ((wrap64 (a1_0)) + (wrap64 (a1_2)))) bt185.1 bt185.2 (decide ((wrap64 ((wrap64 (a1_0)) + (wrap64 (a1_2)))) ≤ a0_1)) a0_0 a0_1 a0_2) else (rudderlaw12_VoteBounded.j1 k1 (wrap64 (a1_0)) (wrap64 ((wrap64 (a1_0)) + (wrap64 (a1_2)))) bt185.1 bt185.2 false a0_0 a0_1 a0_2))) else (if (wrap64 ((wrap64 (a1_0)) + (wrap64 (a1_2)))) ≥ a0_0 then (rudderlaw12_VoteBounded.j1 k1 (wrap64 (a1_0)) (wrap64 ((wrap64 (a1_0)) + (wrap64 (a1_2)))) bt185.1 bt185.2 (decide ((wrap64 ((wrap64 (a1_0)) + (wrap64 (a1_2)))) ≤ a0_1)) a0_0 a0_1 a0_2) else (rudderlaw12_VoteBounded.j1 k1 (wrap64 (a1_0)) (wrap64 ((wrap64 (a1_0)) + (wrap64 (a1_2)))) bt185.1 bt185.2 false a0_0 a0_1 a0_2))) else (rudderlaw12_VoteBounded.j1 k1 (wrap64 (a1_0)) (wrap64 ((wrap64 (a1_0)) + (wrap64 (a1_2)))) bt185.1 bt185.2 false a0_0 a0_1 a0_2)))) else (none)))) else (none)))) else (none))) else (none))) = some r := by first | (rw [hy159]; with_reducible exact H) | (have H2_ := (Option.bind_some _ _).symm.trans H; rw [hy159]; with_reducible exact H2_) | (have H2_ := (Option.bind_some _ _).symm.trans H; with_reducible exact H2_) | with_reducible exact H | (rw [hy159]; exact H) | exact H
          have Ny159 := Aside0.mk hy159
          clear hy159
          obtain ⟨y162, hy162⟩ : ∃ y_ : List Int, y_ = (([] : List Int)) := ⟨_, rfl⟩
          replace H : (if (ji62) ≤ (x8_1.length : Int) then ((some (x8_1.take ((ji62) : Int).toNat : List Int)).bind fun y165 => (if y162.length + y165.length < 17592186044416 then ((some (y162 ++ y165 : List Int)).bind fun y169 => ((some (([wrap64 ((wrap64 (Int.tmod a1_9 16)) + 1)] : List Int) : List Int)).bind fun y172 => (if y169.length + y172.length < 17592186044416 then ((some (y169 ++ y172 : List Int)).bind fun y175 => ((some (x8_1.drop ((ji62) : Int).toNat : List Int)).bind fun y178 => (if y175.length + y178.length < 17592186044416 then ((vote_Vote.f a0_0 a0_1 a0_2 y159 (y175 ++ y178)).bind fun bt185 => ((vote_Right.f a0_0 a0_1 a0_2).bind fun t187 => (if t187 = true then (if (wrap64 (a1_0)) ≥ a0_0 then (if (wrap64 (a1_0)) ≤ a0_1 then (rudderlaw12_VoteBounded.j1 k1 (wrap64 (a1_0)) (wrap64 ((wrap64 (a1_0)) + (wrap64 (a1_2)))) bt185.1 bt185.2 true a0_0 a0_1 a0_2) else (if (wrap64 ((wrap64 (a1_0)) + (wrap64 (a1_2)))) ≥ a0_0 then (rudderlaw12_VoteBounded.j1 k1 (wrap64 (a1_0)) (wrap64 ((wrap64 (a1_0)) + (wrap64 (a1_2)))) bt185.1 bt185.2 (decide ((wrap64 ((wrap64 (a1_0)) + (wrap64 (a1_2)))) ≤ a0_1)) a0_0 a0_1 a0_2) else (rudderlaw12_VoteBounded.j1 k1 (wrap64 (a1_0)) (wrap64 ((wrap64 (a1_0)) + (wrap64 (a1_2)))) bt185.1 bt185.2 false a0_0 a0_1 a0_2))) else (if (wrap64 ((wrap64 (a1_0)) + (wrap64 (a1_2)))) ≥ a0_0 then (rudderlaw12_VoteBounded.j1 k1 (wrap64 (a1_0)) (wrap64 ((wrap64 (a1_0)) + (wrap64 (a1_2)))) bt185.1 bt185.2 (decide ((wrap64 ((wrap64 (a1_0)) + (wrap64 (a1_2)))) ≤ a0_1)) a0_0 a0_1 a0_2) else (rudderlaw12_VoteBounded.j1 k1 (wrap64 (a1_0)) (wrap64 ((wrap64 (a1_0)) + (wrap64 (a1_2)))) bt185.1 bt185.2 false a0_0 a0_1 a0_2))) else (rudderlaw12_VoteBounded.j1 k1 (wrap64 (a1_0)) (wrap64 ((wrap64 (a1_0)) + (wrap64 (a1_2)))) bt185.1 bt185.2 false a0_0 a0_1 a0_2)))) else (none)))) else (none)))) else (none))) else (none)) = some r := by first | (rw [hy162]; with_reducible exact H) | (have H2_ := (Option.bind_some _ _).symm.trans H; rw [hy162]; with_reducible exact H2_) | (have H2_ := (Option.bind_some _ _).symm.trans H; with_reducible exact H2_) | with_reducible exact H | (rw [hy162]; exact H) | exact H
          have Ny162 := Aside0.mk hy162
          clear hy162
          have c70b0 := eq_true (of_decide_eq_true (by first | (with_reducible assumption) | assumption) : 0 ≤ (ji62))
          by_cases c71 : (ji62) ≤ (x8_1.length : Int)
          ·rw [if_pos c71] at H
           have c71b0 := eq_true c71
           have c71b1 : decide ((ji62) ≤ (x8_1.length : Int)) = true := decide_eq_true c71
           clear c71
           obtain ⟨y165, hy165⟩ : ∃ y_ : List Int, y_ = (x8_1.take ((ji62) : Int).toNat) := ⟨_, rfl⟩
           replace H : (if y162.length + y165.length < 17592186044416 then ((some (y162 ++ y165 : List Int)).bind fun y169 => ((some (([wrap64 ((wrap64 (Int.tmod a1_9 16)) + 1)] : List Int) : List Int)).bind fun y172 => (if y169.length + y172.length < 17592186044416 then ((some (y169 ++ y172 : List Int)).bind fun y175 => ((some (x8_1.drop ((ji62) : Int).toNat : List Int)).bind fun y178 => (if y175.length + y178.length < 17592186044416 then ((vote_Vote.f a0_0 a0_1 a0_2 y159 (y175 ++ y178)).bind fun bt185 => ((vote_Right.f a0_0 a0_1 a0_2).bind fun t187 => (if t187 = true then (if (wrap64 (a1_0)) ≥ a0_0 then (if (wrap64 (a1_0)) ≤ a0_1 then (rudderlaw12_VoteBounded.j1 k1 (wrap64 (a1_0)) (wrap64 ((wrap64 (a1_0)) + (wrap64 (a1_2)))) bt185.1 bt185.2 true a0_0 a0_1 a0_2) else (if (wrap64 ((wrap64 (a1_0)) + (wrap64 (a1_2)))) ≥ a0_0 then (rudderlaw12_VoteBounded.j1 k1 (wrap64 (a1_0)) (wrap64 ((wrap64 (a1_0)) + (wrap64 (a1_2)))) bt185.1 bt185.2 (decide ((wrap64 ((wrap64 (a1_0)) + (wrap64 (a1_2)))) ≤ a0_1)) a0_0 a0_1 a0_2) else (rudderlaw12_VoteBounded.j1 k1 (wrap64 (a1_0)) (wrap64 ((wrap64 (a1_0)) + (wrap64 (a1_2)))) bt185.1 bt185.2 false a0_0 a0_1 a0_2))) else (if (wrap64 ((wrap64 (a1_0)) + (wrap64 (a1_2)))) ≥ a0_0 then (rudderlaw12_VoteBounded.j1 k1 (wrap64 (a1_0)) (wrap64 ((wrap64 (a1_0)) + (wrap64 (a1_2)))) bt185.1 bt185.2 (decide ((wrap64 ((wrap64 (a1_0)) + (wrap64 (a1_2)))) ≤ a0_1)) a0_0 a0_1 a0_2) else (rudderlaw12_VoteBounded.j1 k1 (wrap64 (a1_0)) (wrap64 ((wrap64 (a1_0)) + (wrap64 (a1_2)))) bt185.1 bt185.2 false a0_0 a0_1 a0_2))) else (rudderlaw12_VoteBounded.j1 k1 (wrap64 (a1_0)) (wrap64 ((wrap64 (a1_0)) + (wrap64 (a1_2)))) bt185.1 bt185.2 false a0_0 a0_1 a0_2)))) else (none)))) else (none)))) else (none)) = some r := by first | (rw [hy165]; with_reducible exact H) | (have H2_ := (Option.bind_some _ _).symm.trans H; rw [hy165]; with_reducible exact H2_) | (have H2_ := (Option.bind_some _ _).symm.trans H; with_reducible exact H2_) | with_reducible exact H | (rw [hy165]; exact H) | exact H
           have Ny165 := Aside0.mk hy165
           clear hy165
           by_cases c72 : y162.length + y165.length < 17592186044416
           ·rw [if_pos c72] at H
            have LMc72 := Aside0.mk c72
            clear c72
            obtain ⟨y169, hy169⟩ : ∃ y_ : List Int, y_ = (y162 ++ y165) := ⟨_, rfl⟩
            replace H : ((some (([wrap64 ((wrap64 (Int.tmod a1_9 16)) + 1)] : List Int) : List Int)).bind fun y172 => (if y169.length + y172.length < 17592186044416 then ((some (y169 ++ y172 : List Int)).bind fun y175 => ((some (x8_1.drop ((ji62) : Int).toNat : List Int)).bind fun y178 => (if y175.length + y178.length < 17592186044416 then ((vote_Vote.f a0_0 a0_1 a0_2 y159 (y175 ++ y178)).bind fun bt185 => ((vote_Right.f a0_0 a0_1 a0_2).bind fun t187 => (if t187 = true then (if (wrap64 (a1_0)) ≥ a0_0 then (if (wrap64 (a1_0)) ≤ a0_1 then (rudderlaw12_VoteBounded.j1 k1 (wrap64 (a1_0)) (wrap64 ((wrap64 (a1_0)) + (wrap64 (a1_2)))) bt185.1 bt185.2 true a0_0 a0_1 a0_2) else (if (wrap64 ((wrap64 (a1_0)) + (wrap64 (a1_2)))) ≥ a0_0 then (rudderlaw12_VoteBounded.j1 k1 (wrap64 (a1_0)) (wrap64 ((wrap64 (a1_0)) + (wrap64 (a1_2)))) bt185.1 bt185.2 (decide ((wrap64 ((wrap64 (a1_0)) + (wrap64 (a1_2)))) ≤ a0_1)) a0_0 a0_1 a0_2) else (rudderlaw12_VoteBounded.j1 k1 (wrap64 (a1_0)) (wrap64 ((wrap64 (a1_0)) + (wrap64 (a1_2)))) bt185.1 bt185.2 false a0_0 a0_1 a0_2))) else (if (wrap64 ((wrap64 (a1_0)) + (wrap64 (a1_2)))) ≥ a0_0 then (rudderlaw12_VoteBounded.j1 k1 (wrap64 (a1_0)) (wrap64 ((wrap64 (a1_0)) + (wrap64 (a1_2)))) bt185.1 bt185.2 (decide ((wrap64 ((wrap64 (a1_0)) + (wrap64 (a1_2)))) ≤ a0_1)) a0_0 a0_1 a0_2) else (rudderlaw12_VoteBounded.j1 k1 (wrap64 (a1_0)) (wrap64 ((wrap64 (a1_0)) + (wrap64 (a1_2)))) bt185.1 bt185.2 false a0_0 a0_1 a0_2))) else (rudderlaw12_VoteBounded.j1 k1 (wrap64 (a1_0)) (wrap64 ((wrap64 (a1_0)) + (wrap64 (a1_2)))) bt185.1 bt185.2 false a0_0 a0_1 a0_2)))) else (none)))) else (none))) = some r := by first | (rw [hy169]; with_reducible exact H) | (have H2_ := (Option.bind_some _ _).symm.trans H; rw [hy169]; with_reducible exact H2_) | (have H2_ := (Option.bind_some _ _).symm.trans H; with_reducible exact H2_) | with_reducible exact H | (rw [hy169]; exact H) | exact H
            have Ny169 := Aside0.mk hy169
            clear hy169
            obtain ⟨y172, hy172⟩ : ∃ y_ : List Int, y_ = (([wrap64 ((wrap64 (Int.tmod a1_9 16)) + 1)] : List Int)) := ⟨_, rfl⟩
            replace H : (if y169.length + y172.length < 17592186044416 then ((some (y169 ++ y172 : List Int)).bind fun y175 => ((some (x8_1.drop ((ji62) : Int).toNat : List Int)).bind fun y178 => (if y175.length + y178.length < 17592186044416 then ((vote_Vote.f a0_0 a0_1 a0_2 y159 (y175 ++ y178)).bind fun bt185 => ((vote_Right.f a0_0 a0_1 a0_2).bind fun t187 => (if t187 = true then (if (wrap64 (a1_0)) ≥ a0_0 then (if (wrap64 (a1_0)) ≤ a0_1 then (rudderlaw12_VoteBounded.j1 k1 (wrap64 (a1_0)) (wrap64 ((wrap64 (a1_0)) + (wrap64 (a1_2)))) bt185.1 bt185.2 true a0_0 a0_1 a0_2) else (if (wrap64 ((wrap64 (a1_0)) + (wrap64 (a1_2)))) ≥ a0_0 then (rudderlaw12_VoteBounded.j1 k1 (wrap64 (a1_0)) (wrap64 ((wrap64 (a1_0)) + (wrap64 (a1_2)))) bt185.1 bt185.2 (decide ((wrap64 ((wrap64 (a1_0)) + (wrap64 (a1_2)))) ≤ a0_1)) a0_0 a0_1 a0_2) else (rudderlaw12_VoteBounded.j1 k1 (wrap64 (a1_0)) (wrap64 ((wrap64 (a1_0)) + (wrap64 (a1_2)))) bt185.1 bt185.2 false a0_0 a0_1 a0_2))) else (if (wrap64 ((wrap64 (a1_0)) + (wrap64 (a1_2)))) ≥ a0_0 then (rudderlaw12_VoteBounded.j1 k1 (wrap64 (a1_0)) (wrap64 ((wrap64 (a1_0)) + (wrap64 (a1_2)))) bt185.1 bt185.2 (decide ((wrap64 ((wrap64 (a1_0)) + (wrap64 (a1_2)))) ≤ a0_1)) a0_0 a0_1 a0_2) else (rudderlaw12_VoteBounded.j1 k1 (wrap64 (a1_0)) (wrap64 ((wrap64 (a1_0)) + (wrap64 (a1_2)))) bt185.1 bt185.2 false a0_0 a0_1 a0_2))) else (rudderlaw12_VoteBounded.j1 k1 (wrap64 (a1_0)) (wrap64 ((wrap64 (a1_0)) + (wrap64 (a1_2)))) bt185.1 bt185.2 false a0_0 a0_1 a0_2)))) else (none)))) else (none)) = some r := by first | (rw [hy172]; with_reducible exact H) | (have H2_ := (Option.bind_some _ _).symm.trans H; rw [hy172]; with_reducible exact H2_) | (have H2_ := (Option.bind_some _ _).symm.trans H; with_reducible exact H2_) | with_reducible exact H | (rw [hy172]; exact H) | exact H
            have Ny172 := Aside0.mk hy172
            clear hy172
            by_cases c73 : y169.length + y172.length < 17592186044416
            ·rw [if_pos c73] at H
             have LMc73 := Aside0.mk c73
             clear c73
             obtain ⟨y175, hy175⟩ : ∃ y_ : List Int, y_ = (y169 ++ y172) := ⟨_, rfl⟩
             replace H : ((some (x8_1.drop ((ji62) : Int).toNat : List Int)).bind fun y178 => (if y175.length + y178.length < 17592186044416 then ((vote_Vote.f a0_0 a0_1 a0_2 y159 (y175 ++ y178)).bind fun bt185 => ((vote_Right.f a0_0 a0_1 a0_2).bind fun t187 => (if t187 = true then (if (wrap64 (a1_0)) ≥ a0_0 then (if (wrap64 (a1_0)) ≤ a0_1 then (rudderlaw12_VoteBounded.j1 k1 (wrap64 (a1_0)) (wrap64 ((wrap64 (a1_0)) + (wrap64 (a1_2)))) bt185.1 bt185.2 true a0_0 a0_1 a0_2) else (if (wrap64 ((wrap64 (a1_0)) + (wrap64 (a1_2)))) ≥ a0_0 then (rudderlaw12_VoteBounded.j1 k1 (wrap64 (a1_0)) (wrap64 ((wrap64 (a1_0)) + (wrap64 (a1_2)))) bt185.1 bt185.2 (decide ((wrap64 ((wrap64 (a1_0)) + (wrap64 (a1_2)))) ≤ a0_1)) a0_0 a0_1 a0_2) else (rudderlaw12_VoteBounded.j1 k1 (wrap64 (a1_0)) (wrap64 ((wrap64 (a1_0)) + (wrap64 (a1_2)))) bt185.1 bt185.2 false a0_0 a0_1 a0_2))) else (if (wrap64 ((wrap64 (a1_0)) + (wrap64 (a1_2)))) ≥ a0_0 then (rudderlaw12_VoteBounded.j1 k1 (wrap64 (a1_0)) (wrap64 ((wrap64 (a1_0)) + (wrap64 (a1_2)))) bt185.1 bt185.2 (decide ((wrap64 ((wrap64 (a1_0)) + (wrap64 (a1_2)))) ≤ a0_1)) a0_0 a0_1 a0_2) else (rudderlaw12_VoteBounded.j1 k1 (wrap64 (a1_0)) (wrap64 ((wrap64 (a1_0)) + (wrap64 (a1_2)))) bt185.1 bt185.2 false a0_0 a0_1 a0_2))) else (rudderlaw12_VoteBounded.j1 k1 (wrap64 (a1_0)) (wrap64 ((wrap64 (a1_0)) + (wrap64 (a1_2)))) bt185.1 bt185.2 false a0_0 a0_1 a0_2)))) else (none))) = some r := by first | (rw [hy175]; with_reducible exact H) | (have H2_ := (Option.bind_some _ _).symm.trans H; rw [hy175]; with_reducible exact H2_) | (have H2_ := (Option.bind_some _ _).symm.trans H; with_reducible exact H2_) | with_reducible exact H | (rw [hy175]; exact H) | exact H
             have Ny175 := Aside0.mk hy175
             clear hy175
             have c74b0 := eq_true (of_decide_eq_true (by first | (with_reducible assumption) | assumption) : 0 ≤ (ji62))
             have c75b0 := eq_true (of_decide_eq_true (by first | (with_reducible assumption) | assumption) : (ji62) ≤ (x8_1.length : Int))
             obtain ⟨y178, hy178⟩ : ∃ y_ : List Int, y_ = (x8_1.drop ((ji62) : Int).toNat) := ⟨_, rfl⟩
             replace H : (if y175.length + y178.length < 17592186044416 then ((vote_Vote.f a0_0 a0_1 a0_2 y159 (y175 ++ y178)).bind fun bt185 => ((vote_Right.f a0_0 a0_1 a0_2).bind fun t187 => (if t187 = true then (if (wrap64 (a1_0)) ≥ a0_0 then (if (wrap64 (a1_0)) ≤ a0_1 then (rudderlaw12_VoteBounded.j1 k1 (wrap64 (a1_0)) (wrap64 ((wrap64 (a1_0)) + (wrap64 (a1_2)))) bt185.1 bt185.2 true a0_0 a0_1 a0_2) else (if (wrap64 ((wrap64 (a1_0)) + (wrap64 (a1_2)))) ≥ a0_0 then (rudderlaw12_VoteBounded.j1 k1 (wrap64 (a1_0)) (wrap64 ((wrap64 (a1_0)) + (wrap64 (a1_2)))) bt185.1 bt185.2 (decide ((wrap64 ((wrap64 (a1_0)) + (wrap64 (a1_2)))) ≤ a0_1)) a0_0 a0_1 a0_2) else (rudderlaw12_VoteBounded.j1 k1 (wrap64 (a1_0)) (wrap64 ((wrap64 (a1_0)) + (wrap64 (a1_2)))) bt185.1 bt185.2 false a0_0 a0_1 a0_2))) else (if (wrap64 ((wrap64 (a1_0)) + (wrap64 (a1_2)))) ≥ a0_0 then (rudderlaw12_VoteBounded.j1 k1 (wrap64 (a1_0)) (wrap64 ((wrap64 (a1_0)) + (wrap64 (a1_2)))) bt185.1 bt185.2 (decide ((wrap64 ((wrap64 (a1_0)) + (wrap64 (a1_2)))) ≤ a0_1)) a0_0 a0_1 a0_2) else (rudderlaw12_VoteBounded.j1 k1 (wrap64 (a1_0)) (wrap64 ((wrap64 (a1_0)) + (wrap64 (a1_2)))) bt185.1 bt185.2 false a0_0 a0_1 a0_2))) else (rudderlaw12_VoteBounded.j1 k1 (wrap64 (a1_0)) (wrap64 ((wrap64 (a1_0)) + (wrap64 (a1_2)))) bt185.1 bt185.2 false a0_0 a0_1 a0_2)))) else (none)) = some r := by first | (rw [hy178]; with_reducible exact H) | (have H2_ := (Option.bind_some _ _).symm.trans H; rw [hy178]; with_reducible exact H2_) | (have H2_ := (Option.bind_some _ _).symm.trans H; with_reducible exact H2_) | with_reducible exact H | (rw [hy178]; exact H) | exact H
             have Ny178 := Aside0.mk hy178
             clear hy178
             by_cases c76 : y175.length + y178.length < 17592186044416
             ·rw [if_pos c76] at H
              have LMc76 := Aside0.mk c76
              clear c76
              obtain ⟨y182, hy182⟩ : ∃ y_ : List Int, y_ = (y175 ++ y178) := ⟨_, rfl⟩
              replace H : ((vote_Vote.f a0_0 a0_1 a0_2 y159 y182).bind fun bt185 => ((vote_Right.f a0_0 a0_1 a0_2).bind fun t187 => (if t187 = true then (if (wrap64 (a1_0)) ≥ a0_0 then (if (wrap64 (a1_0)) ≤ a0_1 then (rudderlaw12_VoteBounded.j1 k1 (wrap64 (a1_0)) (wrap64 ((wrap64 (a1_0)) + (wrap64 (a1_2)))) bt185.1 bt185.2 true a0_0 a0_1 a0_2) else (if (wrap64 ((wrap64 (a1_0)) + (wrap64 (a1_2)))) ≥ a0_0 then (rudderlaw12_VoteBounded.j1 k1 (wrap64 (a1_0)) (wrap64 ((wrap64 (a1_0)) + (wrap64 (a1_2)))) bt185.1 bt185.2 (decide ((wrap64 ((wrap64 (a1_0)) + (wrap64 (a1_2)))) ≤ a0_1)) a0_0 a0_1 a0_2) else (rudderlaw12_VoteBounded.j1 k1 (wrap64 (a1_0)) (wrap64 ((wrap64 (a1_0)) + (wrap64 (a1_2)))) bt185.1 bt185.2 false a0_0 a0_1 a0_2))) else (if (wrap64 ((wrap64 (a1_0)) + (wrap64 (a1_2)))) ≥ a0_0 then (rudderlaw12_VoteBounded.j1 k1 (wrap64 (a1_0)) (wrap64 ((wrap64 (a1_0)) + (wrap64 (a1_2)))) bt185.1 bt185.2 (decide ((wrap64 ((wrap64 (a1_0)) + (wrap64 (a1_2)))) ≤ a0_1)) a0_0 a0_1 a0_2) else (rudderlaw12_VoteBounded.j1 k1 (wrap64 (a1_0)) (wrap64 ((wrap64 (a1_0)) + (wrap64 (a1_2)))) bt185.1 bt185.2 false a0_0 a0_1 a0_2))) else (rudderlaw12_VoteBounded.j1 k1 (wrap64 (a1_0)) (wrap64 ((wrap64 (a1_0)) + (wrap64 (a1_2)))) bt185.1 bt185.2 false a0_0 a0_1 a0_2)))) = some r := by first | (rw [hy182]; with_reducible exact H) | (have H2_ := (Option.bind_some _ _).symm.trans H; rw [hy182]; with_reducible exact H2_) | (have H2_ := (Option.bind_some _ _).symm.trans H; with_reducible exact H2_) | with_reducible exact H | (rw [hy182]; exact H) | exact H
              have Ny182 := Aside0.mk hy182
              clear hy182
              replace H := Option.bind_eq_some_iff.mp H
              obtain ⟨⟨t185, t186⟩, A770, H⟩ := H
              replace H : ((vote_Right.f a0_0 a0_1 a0_2).bind fun t187 => (if t187 = true then (if (wrap64 (a1_0)) ≥ a0_0 then (if (wrap64 (a1_0)) ≤ a0_1 then (rudderlaw12_VoteBounded.j1 k1 (wrap64 (a1_0)) (wrap64 ((wrap64 (a1_0)) + (wrap64 (a1_2)))) t185 t186 true a0_0 a0_1 a0_2) else (if (wrap64 ((wrap64 (a1_0)) + (wrap64 (a1_2)))) ≥ a0_0 then (rudderlaw12_VoteBounded.j1 k1 (wrap64 (a1_0)) (wrap64 ((wrap64 (a1_0)) + (wrap64 (a1_2)))) t185 t186 (decide ((wrap64 ((wrap64 (a1_0)) + (wrap64 (a1_2)))) ≤ a0_1)) a0_0 a0_1 a0_2) else (rudderlaw12_VoteBounded.j1 k1 (wrap64 (a1_0)) (wrap64 ((wrap64 (a1_0)) + (wrap64 (a1_2)))) t185 t186 false a0_0 a0_1 a0_2))) else (if (wrap64 ((wrap64 (a1_0)) + (wrap64 (a1_2)))) ≥ a0_0 then (rudderlaw12_VoteBounded.j1 k1 (wrap64 (a1_0)) (wrap64 ((wrap64 (a1_0)) + (wrap64 (a1_2)))) t185 t186 (decide ((wrap64 ((wrap64 (a1_0)) + (wrap64 (a1_2)))) ≤ a0_1)) a0_0 a0_1 a0_2) else (rudderlaw12_VoteBounded.j1 k1 (wrap64 (a1_0)) (wrap64 ((wrap64 (a1_0)) + (wrap64 (a1_2)))) t185 t186 false a0_0 a0_1 a0_2))) else (rudderlaw12_VoteBounded.j1 k1 (wrap64 (a1_0)) (wrap64 ((wrap64 (a1_0)) + (wrap64 (a1_2)))) t185 t186 false a0_0 a0_1 a0_2))) = some r := H
              have A77 := Aside0.mk A770
              clear A770
              have HC78 := Aside0.mk H
              clear H
              have hnb79 := NB102_101.out
              have hnc79 := NB101_102.out
              have hcz80_0 : wr.cell? ⟨gb102, 0, none⟩ = some (.int .i32 a1_0) := (blk_cell BK102.out 0).trans rfl
              have hcz80_1 : wr.cell? ⟨gb102, 1, none⟩ = some (.int .i32 a1_1) := (blk_cell BK102.out 1).trans rfl
              have hcz80_2 : wr.cell? ⟨gb102, 2, none⟩ = some (.int .u16 a1_2) := (blk_cell BK102.out 2).trans rfl
              have hcz80_3 : wr.cell? ⟨gb102, 3, none⟩ = some (.int .u16 a1_3) := (blk_cell BK102.out 3).trans rfl
              have hcz80_4 : wr.cell? ⟨gb102, 4, none⟩ = some (.int .u16 a1_4) := (blk_cell BK102.out 4).trans rfl
              have hcz80_5 : wr.cell? ⟨gb102, 5, none⟩ = some (.int .u16 a1_5) := (blk_cell BK102.out 5).trans rfl
              have hcz80_6 : wr.cell? ⟨gb102, 6, none⟩ = some (.int .u8 a1_6) := (blk_cell BK102.out 6).trans rfl
              have hcz80_7 : wr.cell? ⟨gb102, 7, none⟩ = some (.int .u8 a1_7) := (blk_cell BK102.out 7).trans rfl
              have hcz80_8 : wr.cell? ⟨gb102, 8, none⟩ = some (.int .u8 a1_8) := (blk_cell BK102.out 8).trans rfl
              have hcz80_9 : wr.cell? ⟨gb102, 9, none⟩ = some (.int .u8 a1_9) := (blk_cell BK102.out 9).trans rfl
              have hcz80_10 : wr.cell? ⟨gb102, 10, none⟩ = some (.int .u8 a1_10) := (blk_cell BK102.out 10).trans rfl
              obtain ⟨Ao81, co81, eo81⟩ := Kd.R_slice HO_7.out
              subst eo81
              try go_wp2
              have n0_ := Aside0.mk (Kd.R_drew HO_7.out)
              have n1_ := Aside0.mk (Kd.R_drew HO_8.out)
              have n2_ := Aside0.mk (blk_drew BK101.out)
              have n3_ := Aside0.mk (blk_drew BK102.out)
              have n4_ := Aside0.mk (below_drew1 HB.out)
              clear HO_7
              clear HO_8
              clear BK101
              clear BK102
              clear HB
              have HO_7 := n0_
              have HO_8 := n1_
              have BK101 := n2_
              have BK102 := n3_
              have HB := n4_
              clear n0_ n1_ n2_ n3_ n4_
              have q83 : ((ji62) : Int) ≤ ((x7_1.length : Int) : Int) := of_decide_eq_true (by first | (with_reducible assumption) | assumption)
              obtain ⟨i083, hi083, _, hsz83, _⟩ := info_parts info3
              have hroom83 : x7_1.length ≤ co81 := (Kd.R_reads' HO_7.out).2.1
              have hC83 : Kd.C (Kd.int .i64) _ Ao81 x7_1.length x7_1 := (Kd.R_reads' HO_7.out).2.2
              have hcut83 := cut_to (P := Try.prog) 29 3 .i64 Try.underlying29 hi083 Ao81 x7_1.length co81 (ji62) (of_decide_eq_true (by first | (with_reducible assumption) | assumption)) q83 hroom83
              have hr83 := Kd.C_take (m := ((ji62) : Int).toNat) hC83 (by omega)
              have hy83 : y142.length = ((ji62) : Int).toNat := (by rw [Ny142.out, List.length_take]; omega)
              rw [← Ny142.out] at hr83
              rw [← hy83] at hcut83
              have HR145 := Aside0.mk hr83
              have HC145 := Aside0.mk (show y142.length ≤ co81 from by omega)
              clear hr83 hC83 hroom83 hi083 hsz83
              have KY83 := Aside0.mk hy83
              clear hy83
              have KL83 := Aside0.mk (show ((ji62) : Int).toNat ≤ x7_1.length from by omega)
              replace q83 := eq_true q83
              have q84 : ((ji62) : Int) ≤ ((x7_1.length : Int) : Int) := of_decide_eq_true (by first | (with_reducible assumption) | assumption)
              obtain ⟨i084, hi084, _, hsz84, _⟩ := info_parts info3
              have hroom84 : x7_1.length ≤ co81 := (Kd.R_reads' HO_7.out).2.1
              have hC84 : Kd.C (Kd.int .i64) _ Ao81 x7_1.length x7_1 := (Kd.R_reads' HO_7.out).2.2
              have q084 : (0 : Int) ≤ ((ji62) : Int) := of_decide_eq_true (by first | (with_reducible assumption) | assumption)
              have hcut84 := cut_from (P := Try.prog) 29 3 .i64 Try.underlying29 hi084 1 hsz84 Ao81 x7_1.length co81 (ji62) q084 q84
              have hr84 := Kd.C_drop (m := ((ji62) : Int).toNat) (c := co81) hC84 (by omega) hroom84
              obtain ⟨A84, hA84⟩ : ∃ A1, A1 = (if co81 = ((ji62) : Int).toNat then Ao81 else (Ao81 : Option Addr).map (·.add (((ji62) : Int).toNat * 1))) := ⟨_, rfl⟩
              obtain ⟨c84, hc84⟩ : ∃ c1, c1 = co81 - ((ji62) : Int).toNat := ⟨_, rfl⟩
              have hy84 : y155.length = x7_1.length - ((ji62) : Int).toNat := (by rw [Ny155.out, List.length_drop] <;> omega)
              rw [show (x7_1).drop ((ji62) : Int).toNat = y155 from Ny155.out.symm] at hr84
              replace hr84 : Kd.C (Kd.int .i64) _ A84 y155.length y155 := (by rw [hA84]; exact hr84)
              rw [← hy84, ← hA84, ← hc84] at hcut84
              have HR158 := Aside0.mk hr84
              have HC158 := Aside0.mk (show y155.length ≤ c84 from by rw [hy84, hc84]; exact Nat.sub_le_sub_right hroom84 _)
              clear hr84 hC84 hroom84 hi084 hsz84 hc84
              have KY84 := Aside0.mk hy84
              have KA84 := Aside0.mk hA84
              clear hy84 hA84
              have KL84 := Aside0.mk (show ((ji62) : Int).toNat ≤ x7_1.length from by omega)
              replace q84 := eq_true q84
              refine start_ (n := 13) (S := fun w' => True) (ds := []) #[false, false, false, false, false, false, false, false, false, false, false, false, false] (by kernel_rfl) rfl rfl trivial (fun hHeld => ?_); refine with_tabW rudderlaw12_VoteBounded.tab12 rudderlaw12_VoteBounded.bits12 (fun HT_ HW_ => ?_)
              generalize wr.drew = w82 at HO_7 HO_8 BK101 BK102 HB HR145 HR158 hHeld ⊢
              refine pure_ (i := 1) (N := some 70) (v := ?_) (a' := ?_) #[false, true, false, false, false, false, false, false, false, false, false, false, false] rfl rfl (any_of HT_.out (by kernel_rfl)) (fun _ _ _ h => h) (Or.inl ⟨by rfl, ?_⟩) ?_ ?_
              rotate_left
              ·intro w'
               go_simp
               with_reducible rfl
              rotate_left
              ·simp only [putR, i64_w, i32_w]
               rfl
              refine pure_ (i := 2) (N := some 71) (v := ?_) (a' := ?_) #[false, true, true, false, false, false, false, false, false, false, false, false, false] rfl rfl (any_of HT_.out (by kernel_rfl)) (fun _ _ _ h => h) (Or.inl ⟨by rfl, ?_⟩) ?_ ?_
              rotate_left
              ·intro w'
               go_simp
               with_reducible rfl
              rotate_left
              ·simp only [putR, i64_w, i32_w]
               rfl
              refine pure_ (i := 3) (N := some 72) (v := ?_) (a' := ?_) #[false, true, true, true, false, false, false, false, false, false, false, false, false] rfl rfl (any_of HT_.out (by kernel_rfl)) (fun _ _ _ h => h) (Or.inl ⟨by rfl, ?_⟩) ?_ ?_
              rotate_left
              ·intro w'
               go_simp
               with_reducible rfl
              rotate_left
              ·simp only [putR, i64_w, i32_w]
               rfl
              refine pure_ (i := 5) (N := some 74) (v := ?_) (a' := ?_) #[false, true, true, true, false, true, false, false, false, false, false, false, false] rfl rfl (any_of HT_.out (by kernel_rfl)) (fun _ _ _ h => h) (Or.inl ⟨by rfl, ?_⟩) ?_ ?_
              rotate_left
              ·intro w'
               go_simp
               with_reducible rfl
              rotate_left
              ·simp only [putR, i64_w, i32_w]
               rfl
              refine pure_ (i := 8) (N := some 77) (v := ?_) (a' := ?_) #[false, true, true, true, false, true, false, false, true, false, false, false, false] rfl rfl (any_of HT_.out (by kernel_rfl)) (fun _ _ _ h => h) (Or.inl ⟨by rfl, ?_⟩) ?_ ?_
              rotate_left
              ·intro w'
               go_simp
               with_reducible rfl
              rotate_left
              ·simp only [putR, i64_w, i32_w]
               rfl
              refine pure_ (i := 9) (N := some 78) (v := ?_) (a' := ?_) #[false, true, true, true, false, true, false, false, true, true, false, false, false] rfl rfl (any_of HT_.out (by kernel_rfl)) (fun _ _ _ h => h) (Or.inl ⟨by rfl, ?_⟩) ?_ ?_
              rotate_left
              ·intro w'
               go_simp
               with_reducible rfl
              rotate_left
              ·simp only [putR, i64_w, i32_w]
               rfl
              refine pure_ (i := 10) (N := some 79) (v := ?_) (a' := ?_) #[false, true, true, true, false, true, false, false, true, true, true, false, false] rfl rfl (any_of HT_.out (by kernel_rfl)) (fun _ _ _ h => h) (Or.inl ⟨by rfl, ?_⟩) ?_ ?_
              rotate_left
              ·intro w'
               go_simp
               with_reducible rfl
              rotate_left
              ·simp only [putR, i64_w, i32_w]
               rfl
              refine join_ (σ := Value × Value × Value) 3 #[true, true, true, true, true, true, true, false, true, true, true, false, false] (fun s_ => [(69, s_.1), (73, s_.2.1), (75, s_.2.2)]) (fun s_ w' => (Kd.R (Kd.int .i64) 3 w' w.heap.size (fun k_ => some k_ ≠ (s_.2.2 : Value).ownBlock ∧ some k_ ≠ (.slice Ao81 x7_1.length co81 : Value).ownBlock ∧ some k_ ≠ (u8 : Value).ownBlock) s_.2.1 y146) ∧ (Kd.R (Kd.int .i64) 3 w' w.heap.size (fun k_ => some k_ ≠ (s_.2.1 : Value).ownBlock ∧ some k_ ≠ (.slice Ao81 x7_1.length co81 : Value).ownBlock ∧ some k_ ≠ (u8 : Value).ownBlock) s_.2.2 y149) ∧ (Kd.R (Kd.int .i64) 3 w' w.heap.size (fun k_ => some k_ ≠ (s_.2.1 : Value).ownBlock ∧ some k_ ≠ (s_.2.2 : Value).ownBlock ∧ some k_ ≠ (u8 : Value).ownBlock) (.slice Ao81 x7_1.length co81) x7_1) ∧ (Kd.R (Kd.int .i64) 3 w' w.heap.size (fun k_ => some k_ ≠ (s_.2.1 : Value).ownBlock ∧ some k_ ≠ (s_.2.2 : Value).ownBlock ∧ some k_ ≠ (.slice Ao81 x7_1.length co81 : Value).ownBlock) u8 x8_1) ∧ (w'.heap[gb101]? = some (.cells #[.int .i64 a0_0, .int .i64 a0_1, .int .i64 a0_2] 35 (0, 0))) ∧ (w'.heap[gb102]? = some (.cells #[.int .i32 a1_0, .int .i32 a1_1, .int .u16 a1_2, .int .u16 a1_3, .int .u16 a1_4, .int .u16 a1_5, .int .u8 a1_6, .int .u8 a1_7, .int .u8 a1_8, .int .u8 a1_9, .int .u8 a1_10] 47 (0, 0))) ∧ (Below w.heap.size w w')) ?_ ?_
              rotate_left
              ·intro hCont
               refine two_ (i := 0) (j := 6) (Ni := some 69) (Nj := some 75) #[true, true, true, true, false, true, false, false, true, true, true, false, false] #[false, true, true, true, false, true, true, false, true, true, true, false, false] rfl rfl rfl rfl (two_of HT_.out (by kernel_rfl)) (by decide) (by decide) (fun K hK => ?_) (fun K hK => ?_)
               ·skip
                refine Kd.R_lit_step (Kd.int .i64) _ 3 ?hg (N := 69) ?hd (xs := ([] : List Int)) (inner := []) (ok := fun _ => True) (okp := fun _ => True) ?hr ?hp (fun _ hk => hk) trivial (Below.refl _ _) (Nat.le_refl _) (by simp) ?_; (case hd => rfl); (case hg => rfl); (case hr => first | (go_simp; done) | (go_simp; rfl)); (case hp => exact (Reps.none _ _))
                intro v140 w85 ho86 hb hg_ hnew_
                clear hg_ hnew_
                (first | rw [← Ny139.out] at ho86 | (simp only [Int.reduceToNat] at ho86; rw [← Ny139.out] at ho86))
                have n0_ := Aside0.mk (Kd.R_elder' (oR HO_7.out) (Kd.R_base ho86) hb)
                have n1_ := Aside0.mk (Kd.R_elder' (oR HO_8.out) (Kd.R_base ho86) hb)
                have n2_ := Aside0.mk (Kd.R_lower (Kd.R_new' (Kd.R_new' ho86 (Kd.R_lt (oR HO_7.out))) (Kd.R_lt (oR HO_8.out))) (below_size (oB2 HB.out GE101.out GE102.out)))
                have n3_ := Aside0.mk (blk_below (g := gb101) (o := O35 a0_0 a0_1 a0_2) (oK BK101.out) hb)
                have n4_ := Aside0.mk (blk_below (g := gb102) (o := O47 a1_0 a1_1 a1_2 a1_3 a1_4 a1_5 a1_6 a1_7 a1_8 a1_9 a1_10) (oK BK102.out) hb)
                have n5_ := Aside0.mk (Kd.C_below (oC HR145.out) hb)
                have n6_ := Aside0.mk (Kd.C_below (oC HR158.out) hb)
                have n7_ := Aside0.mk (below_step (oB2 HB.out GE101.out GE102.out) hb)
                clear HO_7
                clear HO_8
                clear BK101
                clear BK102
                clear HR145
                clear HR158
                clear HB
                have HO_7 := n0_
                have HO_8 := n1_
                have HO141 := n2_
                have BK101 := n3_
                have BK102 := n4_
                have HR145 := n5_
                have HR158 := n6_
                have HB := n7_
                clear n0_ n1_ n2_ n3_ n4_ n5_ n6_ n7_
                clear hb ho86
                refine hK.out _ _ trivial (fun hHeld => ?_)
                clear hK K
                refine norm_ (a' := ?_) ?_ ?_
                rotate_left
                ·show Act.put _ (some 69) _ = _
                 simp only [putR, i64_w, i32_w]
                 rfl
                refine two_ (i := 4) (j := 6) (Ni := some 73) (Nj := some 75) #[true, true, true, true, true, true, false, false, true, true, true, false, false] #[true, true, true, true, false, true, true, false, true, true, true, false, false] rfl rfl rfl rfl (two_of HT_.out (by kernel_rfl)) (by decide) (by decide) (fun K hK => ?_) (fun K hK => ?_)
                ·skip
                 refine Kd.R_append_rows_step (Kd.int .i64) (w0 := w) w.heap.size (by rfl) (.tmp 69) (.tmp 72) 29 3 (.int .i64 0) 8 rfl Try.underlying29 info3 rfl (by decide) (by omega) v140 y139 y142 _ _ _ (fun k_ => some k_ ≠ (.slice Ao81 x7_1.length co81 : Value).ownBlock ∧ some k_ ≠ (u8 : Value).ownBlock) (fun _ => False) rfl rfl ?aO ?aR (fun _ _ h => h) (fun _ h => h.elim) ?aF ?aB ?aS ?aL ?_
                 (case aR => repeat (first | exact (oC HR145.out) | (with_reducible refine Kd.C_alloc ?_ _) | (with_reducible refine Kd.C_drewN ?_ _) | (with_reducible refine Kd.C_drew ?_)))
                 (case aB => exact (oB2 HB.out GE101.out GE102.out))
                 (case aF => exact (fun k_ hk => ⟨Kd.fresh' (Kd.R_lt (oR HO_7.out)) k_ hk, Kd.fresh' (Kd.R_lt (oR HO_8.out)) k_ hk⟩))
                 (case aO => exact (by (with_reducible repeat (first | apply Kd.R_alloc | apply Kd.R_drewN | apply Kd.R_drew)); exact Kd.R_mono HO141.out (fun _ hk => ⟨hk.1.2, hk.2⟩)))
                 (case aS => exact (below_size (oB2 HB.out GE101.out GE102.out)))
                 (case aL => have := LMc65.out; omega)
                 intro v147 w87 ho hb hg hat
                 rw [← Ny146.out] at ho
                 have n0_ := Aside0.mk (Kd.R_after (ok := (fun k_ => some k_ ≠ (u8 : Value).ownBlock)) (oR HO_7.out) hg hat)
                 have n1_ := Aside0.mk (Kd.R_after (ok := (fun k_ => some k_ ≠ (.slice Ao81 x7_1.length co81 : Value).ownBlock)) (oR HO_8.out) hg hat)
                 have n2_ := Aside0.mk (blk_grown (g := gb101) (o := O35 a0_0 a0_1 a0_2) (oK BK101.out) hg (Kd.R_ne HO141.out BK101.out (by decide)))
                 have n3_ := Aside0.mk (blk_grown (g := gb102) (o := O47 a1_0 a1_1 a1_2 a1_3 a1_4 a1_5 a1_6 a1_7 a1_8 a1_9 a1_10) (oK BK102.out) hg (Kd.R_ne HO141.out BK102.out (by decide)))
                 have n4_ := Aside0.mk (hb)
                 have n5_ := Aside0.mk ((show Kd.C (Kd.int .i64) w87 Ao81 y142.length y142 from by rw [Ny142.out]; exact Kd.C_take (m := ((ji62) : Int).toNat) ((Kd.R_reads' (Kd.R_after (ok := (fun k_ => some k_ ≠ (u8 : Value).ownBlock)) (oR HO_7.out) hg hat)).2.2) KL83.out))
                 have n6_ := Aside0.mk ((show Kd.C (Kd.int .i64) w87 A84 y155.length y155 from by rw [Ny155.out, KA84.out]; exact Kd.C_drop (m := ((ji62) : Int).toNat) (c := co81) ((Kd.R_reads' (Kd.R_after (ok := (fun k_ => some k_ ≠ (u8 : Value).ownBlock)) (oR HO_7.out) hg hat)).2.2) KL84.out ((Kd.R_reads' (Kd.R_after (ok := (fun k_ => some k_ ≠ (u8 : Value).ownBlock)) (oR HO_7.out) hg hat)).2.1)))
                 have n7_ := Aside0.mk (ho)
                 clear HO_7
                 clear HO_8
                 clear BK101
                 clear BK102
                 clear HB
                 clear HR145
                 clear HR158
                 clear HO141
                 have HO_7 := n0_
                 have HO_8 := n1_
                 have BK101 := n2_
                 have BK102 := n3_
                 have HB := n4_
                 have HR145 := n5_
                 have HR158 := n6_
                 have HO148 := n7_
                 clear n0_ n1_ n2_ n3_ n4_ n5_ n6_ n7_
                 clear ho hb hg hat
                 refine hK.out _ _ trivial (fun hHeld => ?_)
                 clear hK K
                 refine norm_ (a' := ?_) ?_ ?_
                 rotate_left
                 ·show Act.put _ (some 73) _ = _
                  simp only [putR, i64_w, i32_w]
                  rfl
                 refine one_ (i := 6) (N := some 75) #[true, true, true, true, true, true, true, false, true, true, true, false, false] rfl rfl (one_of HT_.out (by kernel_rfl)) (by decide) (fun K hK => ?_)
                 refine Kd.R_lit_step (Kd.int .i64) _ 3 ?hg (N := 75) ?hd (xs := ([wrap64 (a1_1)] : List Int)) (inner := [.int .i64 (wrap64 (a1_1))]) (ok := fun _ => True) (okp := fun _ => True) ?hr ?hp (fun _ hk => hk) trivial (Below.refl _ _) (Nat.le_refl _) (by simp) ?_; (case hd => rfl); (case hg => rfl); (case hr => first | (go_simp; done) | (go_simp; rfl)); (case hp => exact (Reps.one (show Kd.M (Kd.int .i64) _ _ _ (wrap64 (a1_1)) [.int .i64 (wrap64 (a1_1))] from rfl) (Reps.none _ _)))
                 intro v150 w88 ho89 hb hg_ hnew_
                 clear hg_ hnew_
                 (first | rw [← Ny149.out] at ho89 | (simp only [Int.reduceToNat] at ho89; rw [← Ny149.out] at ho89))
                 have n0_ := Aside0.mk (Kd.R_elder' (oR HO_7.out) (Kd.R_base ho89) hb)
                 have n1_ := Aside0.mk (Kd.R_elder' (oR HO_8.out) (Kd.R_base ho89) hb)
                 have n2_ := Aside0.mk (Kd.R_elder' (oR HO148.out) (Kd.R_base ho89) hb)
                 have n3_ := Aside0.mk (Kd.R_lower (Kd.R_new' (Kd.R_new' (Kd.R_new' ho89 (Kd.R_lt (oR HO_7.out))) (Kd.R_lt (oR HO_8.out))) (Kd.R_lt (oR HO148.out))) (below_size (oB2 HB.out GE101.out GE102.out)))
                 have n4_ := Aside0.mk (blk_below (g := gb101) (o := O35 a0_0 a0_1 a0_2) (oK BK101.out) hb)
                 have n5_ := Aside0.mk (blk_below (g := gb102) (o := O47 a1_0 a1_1 a1_2 a1_3 a1_4 a1_5 a1_6 a1_7 a1_8 a1_9 a1_10) (oK BK102.out) hb)
                 have n6_ := Aside0.mk (Kd.C_below (oC HR145.out) hb)
                 have n7_ := Aside0.mk (Kd.C_below (oC HR158.out) hb)
                 have n8_ := Aside0.mk (below_step (oB2 HB.out GE101.out GE102.out) hb)
                 clear HO_7
                 clear HO_8
                 clear HO148
                 clear BK101
                 clear BK102
                 clear HR145
                 clear HR158
                 clear HB
                 have HO_7 := n0_
                 have HO_8 := n1_
                 have HO148 := n2_
                 have HO151 := n3_
                 have BK101 := n4_
                 have BK102 := n5_
                 have HR145 := n6_
                 have HR158 := n7_
                 have HB := n8_
                 clear n0_ n1_ n2_ n3_ n4_ n5_ n6_ n7_ n8_
                 clear hb ho89
                 refine hK.out _ _ trivial (fun hHeld => ?_)
                 clear hK K
                 refine norm_ (a' := ?_) ?_ ?_
                 rotate_left
                 ·show Act.put _ (some 75) _ = _
                  simp only [putR, i64_w, i32_w]
                  rfl
                 exact norm_ (by simp only [putAll, Act.put, List.setIfInBounds_toArray, List.set_cons_zero, List.set_cons_succ]) (hCont (v140, v147, v150) _ ⟨(by (with_reducible repeat (first | apply Kd.R_alloc | apply Kd.R_drewN | apply Kd.R_drew)); exact Kd.R_mono HO148.out (fun _ hk => ⟨hk.2, ⟨hk.1.1, hk.1.2⟩⟩)), (by (with_reducible repeat (first | apply Kd.R_alloc | apply Kd.R_drewN | apply Kd.R_drew)); exact Kd.R_mono HO151.out (fun _ hk => ⟨hk.2, ⟨hk.1.1.2, hk.1.2⟩⟩)), (by (with_reducible repeat (first | apply Kd.R_alloc | apply Kd.R_drewN | apply Kd.R_drew)); exact Kd.R_mono HO_7.out (fun _ hk => ⟨hk.1.2, ⟨hk.2, hk.1.1⟩⟩)), (by (with_reducible repeat (first | apply Kd.R_alloc | apply Kd.R_drewN | apply Kd.R_drew)); exact Kd.R_mono HO_8.out (fun _ hk => ⟨hk.1.2, ⟨hk.2, hk.1.1⟩⟩)), (oK BK101.out), (oK BK102.out), (oB2 HB.out GE101.out GE102.out)⟩)
                ·skip
                 refine Kd.R_lit_step (Kd.int .i64) _ 3 ?hg (N := 75) ?hd (xs := ([wrap64 (a1_1)] : List Int)) (inner := [.int .i64 (wrap64 (a1_1))]) (ok := fun _ => True) (okp := fun _ => True) ?hr ?hp (fun _ hk => hk) trivial (Below.refl _ _) (Nat.le_refl _) (by simp) ?_; (case hd => rfl); (case hg => rfl); (case hr => first | (go_simp; done) | (go_simp; rfl)); (case hp => exact (Reps.one (show Kd.M (Kd.int .i64) _ _ _ (wrap64 (a1_1)) [.int .i64 (wrap64 (a1_1))] from rfl) (Reps.none _ _)))
                 intro v150 w87 ho88 hb hg_ hnew_
                 clear hg_ hnew_
                 (first | rw [← Ny149.out] at ho88 | (simp only [Int.reduceToNat] at ho88; rw [← Ny149.out] at ho88))
                 have n0_ := Aside0.mk (Kd.R_elder' (oR HO_7.out) (Kd.R_base ho88) hb)
                 have n1_ := Aside0.mk (Kd.R_elder' (oR HO_8.out) (Kd.R_base ho88) hb)
                 have n2_ := Aside0.mk (Kd.R_elder' (oR HO141.out) (Kd.R_base ho88) hb)
                 have n3_ := Aside0.mk (Kd.R_lower (Kd.R_new' (Kd.R_new' (Kd.R_new' ho88 (Kd.R_lt (oR HO_7.out))) (Kd.R_lt (oR HO_8.out))) (Kd.R_lt (oR HO141.out))) (below_size (oB2 HB.out GE101.out GE102.out)))
                 have n4_ := Aside0.mk (blk_below (g := gb101) (o := O35 a0_0 a0_1 a0_2) (oK BK101.out) hb)
                 have n5_ := Aside0.mk (blk_below (g := gb102) (o := O47 a1_0 a1_1 a1_2 a1_3 a1_4 a1_5 a1_6 a1_7 a1_8 a1_9 a1_10) (oK BK102.out) hb)
                 have n6_ := Aside0.mk (Kd.C_below (oC HR145.out) hb)
                 have n7_ := Aside0.mk (Kd.C_below (oC HR158.out) hb)
                 have n8_ := Aside0.mk (below_step (oB2 HB.out GE101.out GE102.out) hb)
                 clear HO_7
                 clear HO_8
                 clear HO141
                 clear BK101
                 clear BK102
                 clear HR145
                 clear HR158
                 clear HB
                 have HO_7 := n0_
                 have HO_8 := n1_
                 have HO141 := n2_
                 have HO151 := n3_
                 have BK101 := n4_
                 have BK102 := n5_
                 have HR145 := n6_
                 have HR158 := n7_
                 have HB := n8_
                 clear n0_ n1_ n2_ n3_ n4_ n5_ n6_ n7_ n8_
                 clear hb ho88
                 refine hK.out _ _ trivial (fun hHeld => ?_)
                 clear hK K
                 refine norm_ (a' := ?_) ?_ ?_
                 rotate_left
                 ·show Act.put _ (some 75) _ = _
                  simp only [putR, i64_w, i32_w]
                  rfl
                 refine one_ (i := 4) (N := some 73) #[true, true, true, true, true, true, true, false, true, true, true, false, false] rfl rfl (one_of HT_.out (by kernel_rfl)) (by decide) (fun K hK => ?_)
                 refine Kd.R_append_rows_step (Kd.int .i64) (w0 := w) w.heap.size (by rfl) (.tmp 69) (.tmp 72) 29 3 (.int .i64 0) 8 rfl Try.underlying29 info3 rfl (by decide) (by omega) v140 y139 y142 _ _ _ (fun k_ => some k_ ≠ (.slice Ao81 x7_1.length co81 : Value).ownBlock ∧ some k_ ≠ (u8 : Value).ownBlock ∧ some k_ ≠ (v150 : Value).ownBlock) (fun _ => False) rfl rfl ?aO ?aR (fun _ _ h => h) (fun _ h => h.elim) ?aF ?aB ?aS ?aL ?_
                 (case aR => repeat (first | exact (oC HR145.out) | (with_reducible refine Kd.C_alloc ?_ _) | (with_reducible refine Kd.C_drewN ?_ _) | (with_reducible refine Kd.C_drew ?_)))
                 (case aB => exact (oB2 HB.out GE101.out GE102.out))
                 (case aF => exact (fun k_ hk => ⟨Kd.fresh' (Kd.R_lt (oR HO_7.out)) k_ hk, Kd.fresh' (Kd.R_lt (oR HO_8.out)) k_ hk, Kd.fresh' (Kd.R_lt (oR HO151.out)) k_ hk⟩))
                 (case aO => exact (by (with_reducible repeat (first | apply Kd.R_alloc | apply Kd.R_drewN | apply Kd.R_drew)); exact Kd.R_mono HO141.out (fun _ hk => ⟨hk.1.1.2, ⟨hk.1.2, hk.2⟩⟩)))
                 (case aS => exact (below_size (oB2 HB.out GE101.out GE102.out)))
                 (case aL => have := LMc65.out; omega)
                 intro v147 w89 ho hb hg hat
                 rw [← Ny146.out] at ho
                 have n0_ := Aside0.mk (Kd.R_after (ok := (fun k_ => some k_ ≠ (u8 : Value).ownBlock ∧ some k_ ≠ (v150 : Value).ownBlock)) (by (with_reducible repeat (first | apply Kd.R_alloc | apply Kd.R_drewN | apply Kd.R_drew)); exact Kd.R_mono HO_7.out (fun _ hk => ⟨⟨hk.1.1, hk.2⟩, hk.1.2⟩)) hg hat)
                 have n1_ := Aside0.mk (Kd.R_after (ok := (fun k_ => some k_ ≠ (.slice Ao81 x7_1.length co81 : Value).ownBlock ∧ some k_ ≠ (v150 : Value).ownBlock)) (by (with_reducible repeat (first | apply Kd.R_alloc | apply Kd.R_drewN | apply Kd.R_drew)); exact Kd.R_mono HO_8.out (fun _ hk => ⟨⟨hk.1.1, hk.2⟩, hk.1.2⟩)) hg hat)
                 have n2_ := Aside0.mk (blk_grown (g := gb101) (o := O35 a0_0 a0_1 a0_2) (oK BK101.out) hg (Kd.R_ne HO141.out BK101.out (by decide)))
                 have n3_ := Aside0.mk (blk_grown (g := gb102) (o := O47 a1_0 a1_1 a1_2 a1_3 a1_4 a1_5 a1_6 a1_7 a1_8 a1_9 a1_10) (oK BK102.out) hg (Kd.R_ne HO141.out BK102.out (by decide)))
                 have n4_ := Aside0.mk (Kd.R_after (ok := (fun k_ => some k_ ≠ (.slice Ao81 x7_1.length co81 : Value).ownBlock ∧ some k_ ≠ (u8 : Value).ownBlock)) (by (with_reducible repeat (first | apply Kd.R_alloc | apply Kd.R_drewN | apply Kd.R_drew)); exact Kd.R_mono HO151.out (fun _ hk => ⟨⟨hk.1.1.2, hk.1.2⟩, hk.2⟩)) hg hat)
                 have n5_ := Aside0.mk (hb)
                 have n6_ := Aside0.mk ((show Kd.C (Kd.int .i64) w89 Ao81 y142.length y142 from by rw [Ny142.out]; exact Kd.C_take (m := ((ji62) : Int).toNat) ((Kd.R_reads' (Kd.R_after (ok := (fun k_ => some k_ ≠ (u8 : Value).ownBlock ∧ some k_ ≠ (v150 : Value).ownBlock)) (by (with_reducible repeat (first | apply Kd.R_alloc | apply Kd.R_drewN | apply Kd.R_drew)); exact Kd.R_mono HO_7.out (fun _ hk => ⟨⟨hk.1.1, hk.2⟩, hk.1.2⟩)) hg hat)).2.2) KL83.out))
                 have n7_ := Aside0.mk ((show Kd.C (Kd.int .i64) w89 A84 y155.length y155 from by rw [Ny155.out, KA84.out]; exact Kd.C_drop (m := ((ji62) : Int).toNat) (c := co81) ((Kd.R_reads' (Kd.R_after (ok := (fun k_ => some k_ ≠ (u8 : Value).ownBlock ∧ some k_ ≠ (v150 : Value).ownBlock)) (by (with_reducible repeat (first | apply Kd.R_alloc | apply Kd.R_drewN | apply Kd.R_drew)); exact Kd.R_mono HO_7.out (fun _ hk => ⟨⟨hk.1.1, hk.2⟩, hk.1.2⟩)) hg hat)).2.2) KL84.out ((Kd.R_reads' (Kd.R_after (ok := (fun k_ => some k_ ≠ (u8 : Value).ownBlock ∧ some k_ ≠ (v150 : Value).ownBlock)) (by (with_reducible repeat (first | apply Kd.R_alloc | apply Kd.R_drewN | apply Kd.R_drew)); exact Kd.R_mono HO_7.out (fun _ hk => ⟨⟨hk.1.1, hk.2⟩, hk.1.2⟩)) hg hat)).2.1)))
                 have n8_ := Aside0.mk (ho)
                 clear HO_7
                 clear HO_8
                 clear BK101
                 clear BK102
                 clear HO151
                 clear HB
                 clear HR145
                 clear HR158
                 clear HO141
                 have HO_7 := n0_
                 have HO_8 := n1_
                 have BK101 := n2_
                 have BK102 := n3_
                 have HO151 := n4_
                 have HB := n5_
                 have HR145 := n6_
                 have HR158 := n7_
                 have HO148 := n8_
                 clear n0_ n1_ n2_ n3_ n4_ n5_ n6_ n7_ n8_
                 clear ho hb hg hat
                 refine hK.out _ _ trivial (fun hHeld => ?_)
                 clear hK K
                 refine norm_ (a' := ?_) ?_ ?_
                 rotate_left
                 ·show Act.put _ (some 73) _ = _
                  simp only [putR, i64_w, i32_w]
                  rfl
                 exact norm_ (by simp only [putAll, Act.put, List.setIfInBounds_toArray, List.set_cons_zero, List.set_cons_succ]) (hCont (v140, v147, v150) _ ⟨(by (with_reducible repeat (first | apply Kd.R_alloc | apply Kd.R_drewN | apply Kd.R_drew)); exact Kd.R_mono HO148.out (fun _ hk => ⟨hk.2.2, ⟨hk.1, hk.2.1⟩⟩)), (by (with_reducible repeat (first | apply Kd.R_alloc | apply Kd.R_drewN | apply Kd.R_drew)); exact Kd.R_mono HO151.out (fun _ hk => ⟨hk.2, ⟨hk.1.1, hk.1.2⟩⟩)), (by (with_reducible repeat (first | apply Kd.R_alloc | apply Kd.R_drewN | apply Kd.R_drew)); exact Kd.R_mono HO_7.out (fun _ hk => ⟨hk.2, ⟨hk.1.2, hk.1.1⟩⟩)), (by (with_reducible repeat (first | apply Kd.R_alloc | apply Kd.R_drewN | apply Kd.R_drew)); exact Kd.R_mono HO_8.out (fun _ hk => ⟨hk.2, ⟨hk.1.2, hk.1.1⟩⟩)), (oK BK101.out), (oK BK102.out), (oB2 HB.out GE101.out GE102.out)⟩)
               ·skip
                refine Kd.R_lit_step (Kd.int .i64) _ 3 ?hg (N := 75) ?hd (xs := ([wrap64 (a1_1)] : List Int)) (inner := [.int .i64 (wrap64 (a1_1))]) (ok := fun _ => True) (okp := fun _ => True) ?hr ?hp (fun _ hk => hk) trivial (Below.refl _ _) (Nat.le_refl _) (by simp) ?_; (case hd => rfl); (case hg => rfl); (case hr => first | (go_simp; done) | (go_simp; rfl)); (case hp => exact (Reps.one (show Kd.M (Kd.int .i64) _ _ _ (wrap64 (a1_1)) [.int .i64 (wrap64 (a1_1))] from rfl) (Reps.none _ _)))
                intro v150 w85 ho86 hb hg_ hnew_
                clear hg_ hnew_
                (first | rw [← Ny149.out] at ho86 | (simp only [Int.reduceToNat] at ho86; rw [← Ny149.out] at ho86))
                have n0_ := Aside0.mk (Kd.R_elder' (oR HO_7.out) (Kd.R_base ho86) hb)
                have n1_ := Aside0.mk (Kd.R_elder' (oR HO_8.out) (Kd.R_base ho86) hb)
                have n2_ := Aside0.mk (Kd.R_lower (Kd.R_new' (Kd.R_new' ho86 (Kd.R_lt (oR HO_7.out))) (Kd.R_lt (oR HO_8.out))) (below_size (oB2 HB.out GE101.out GE102.out)))
                have n3_ := Aside0.mk (blk_below (g := gb101) (o := O35 a0_0 a0_1 a0_2) (oK BK101.out) hb)
                have n4_ := Aside0.mk (blk_below (g := gb102) (o := O47 a1_0 a1_1 a1_2 a1_3 a1_4 a1_5 a1_6 a1_7 a1_8 a1_9 a1_10) (oK BK102.out) hb)
                have n5_ := Aside0.mk (Kd.C_below (oC HR145.out) hb)
                have n6_ := Aside0.mk (Kd.C_below (oC HR158.out) hb)
                have n7_ := Aside0.mk (below_step (oB2 HB.out GE101.out GE102.out) hb)
                clear HO_7
                clear HO_8
                clear BK101
                clear BK102
                clear HR145
                clear HR158
                clear HB
                have HO_7 := n0_
                have HO_8 := n1_
                have HO151 := n2_
                have BK101 := n3_
                have BK102 := n4_
                have HR145 := n5_
                have HR158 := n6_
                have HB := n7_
                clear n0_ n1_ n2_ n3_ n4_ n5_ n6_ n7_
                clear hb ho86
                refine hK.out _ _ trivial (fun hHeld => ?_)
                clear hK K
                refine norm_ (a' := ?_) ?_ ?_
                rotate_left
                ·show Act.put _ (some 75) _ = _
                 simp only [putR, i64_w, i32_w]
                 rfl
                refine one_ (i := 0) (N := some 69) #[true, true, true, true, false, true, true, false, true, true, true, false, false] rfl rfl (one_of HT_.out (by kernel_rfl)) (by decide) (fun K hK => ?_)
                refine Kd.R_lit_step (Kd.int .i64) _ 3 ?hg (N := 69) ?hd (xs := ([] : List Int)) (inner := []) (ok := fun _ => True) (okp := fun _ => True) ?hr ?hp (fun _ hk => hk) trivial (Below.refl _ _) (Nat.le_refl _) (by simp) ?_; (case hd => rfl); (case hg => rfl); (case hr => first | (go_simp; done) | (go_simp; rfl)); (case hp => exact (Reps.none _ _))
                intro v140 w87 ho88 hb hg_ hnew_
                clear hg_ hnew_
                (first | rw [← Ny139.out] at ho88 | (simp only [Int.reduceToNat] at ho88; rw [← Ny139.out] at ho88))
                have n0_ := Aside0.mk (Kd.R_elder' (oR HO_7.out) (Kd.R_base ho88) hb)
                have n1_ := Aside0.mk (Kd.R_elder' (oR HO_8.out) (Kd.R_base ho88) hb)
                have n2_ := Aside0.mk (Kd.R_elder' (oR HO151.out) (Kd.R_base ho88) hb)
                have n3_ := Aside0.mk (Kd.R_lower (Kd.R_new' (Kd.R_new' (Kd.R_new' ho88 (Kd.R_lt (oR HO_7.out))) (Kd.R_lt (oR HO_8.out))) (Kd.R_lt (oR HO151.out))) (below_size (oB2 HB.out GE101.out GE102.out)))
                have n4_ := Aside0.mk (blk_below (g := gb101) (o := O35 a0_0 a0_1 a0_2) (oK BK101.out) hb)
                have n5_ := Aside0.mk (blk_below (g := gb102) (o := O47 a1_0 a1_1 a1_2 a1_3 a1_4 a1_5 a1_6 a1_7 a1_8 a1_9 a1_10) (oK BK102.out) hb)
                have n6_ := Aside0.mk (Kd.C_below (oC HR145.out) hb)
                have n7_ := Aside0.mk (Kd.C_below (oC HR158.out) hb)
                have n8_ := Aside0.mk (below_step (oB2 HB.out GE101.out GE102.out) hb)
                clear HO_7
                clear HO_8
                clear HO151
                clear BK101
                clear BK102
                clear HR145
                clear HR158
                clear HB
                have HO_7 := n0_
                have HO_8 := n1_
                have HO151 := n2_
                have HO141 := n3_
                have BK101 := n4_
                have BK102 := n5_
                have HR145 := n6_
                have HR158 := n7_
                have HB := n8_
                clear n0_ n1_ n2_ n3_ n4_ n5_ n6_ n7_ n8_
                clear hb ho88
                refine hK.out _ _ trivial (fun hHeld => ?_)
                clear hK K
                refine norm_ (a' := ?_) ?_ ?_
                rotate_left
                ·show Act.put _ (some 69) _ = _
                 simp only [putR, i64_w, i32_w]
                 rfl
                refine one_ (i := 4) (N := some 73) #[true, true, true, true, true, true, true, false, true, true, true, false, false] rfl rfl (one_of HT_.out (by kernel_rfl)) (by decide) (fun K hK => ?_)
                refine Kd.R_append_rows_step (Kd.int .i64) (w0 := w) w.heap.size (by rfl) (.tmp 69) (.tmp 72) 29 3 (.int .i64 0) 8 rfl Try.underlying29 info3 rfl (by decide) (by omega) v140 y139 y142 _ _ _ (fun k_ => some k_ ≠ (.slice Ao81 x7_1.length co81 : Value).ownBlock ∧ some k_ ≠ (u8 : Value).ownBlock ∧ some k_ ≠ (v150 : Value).ownBlock) (fun _ => False) rfl rfl ?aO ?aR (fun _ _ h => h) (fun _ h => h.elim) ?aF ?aB ?aS ?aL ?_
                (case aR => repeat (first | exact (oC HR145.out) | (with_reducible refine Kd.C_alloc ?_ _) | (with_reducible refine Kd.C_drewN ?_ _) | (with_reducible refine Kd.C_drew ?_)))
                (case aB => exact (oB2 HB.out GE101.out GE102.out))
                (case aF => exact (fun k_ hk => ⟨Kd.fresh' (Kd.R_lt (oR HO_7.out)) k_ hk, Kd.fresh' (Kd.R_lt (oR HO_8.out)) k_ hk, Kd.fresh' (Kd.R_lt (oR HO151.out)) k_ hk⟩))
                (case aO => exact (by (with_reducible repeat (first | apply Kd.R_alloc | apply Kd.R_drewN | apply Kd.R_drew)); exact Kd.R_mono HO141.out (fun _ hk => ⟨hk.1.1.2, ⟨hk.1.2, hk.2⟩⟩)))
                (case aS => exact (below_size (oB2 HB.out GE101.out GE102.out)))
                (case aL => have := LMc65.out; omega)
                intro v147 w89 ho hb hg hat
                rw [← Ny146.out] at ho
                have n0_ := Aside0.mk (Kd.R_after (ok := (fun k_ => some k_ ≠ (u8 : Value).ownBlock ∧ some k_ ≠ (v150 : Value).ownBlock)) (oR HO_7.out) hg hat)
                have n1_ := Aside0.mk (Kd.R_after (ok := (fun k_ => some k_ ≠ (.slice Ao81 x7_1.length co81 : Value).ownBlock ∧ some k_ ≠ (v150 : Value).ownBlock)) (oR HO_8.out) hg hat)
                have n2_ := Aside0.mk (blk_grown (g := gb101) (o := O35 a0_0 a0_1 a0_2) (oK BK101.out) hg (Kd.R_ne HO141.out BK101.out (by decide)))
                have n3_ := Aside0.mk (blk_grown (g := gb102) (o := O47 a1_0 a1_1 a1_2 a1_3 a1_4 a1_5 a1_6 a1_7 a1_8 a1_9 a1_10) (oK BK102.out) hg (Kd.R_ne HO141.out BK102.out (by decide)))
                have n4_ := Aside0.mk (Kd.R_after (ok := (fun k_ => some k_ ≠ (.slice Ao81 x7_1.length co81 : Value).ownBlock ∧ some k_ ≠ (u8 : Value).ownBlock)) (by (with_reducible repeat (first | apply Kd.R_alloc | apply Kd.R_drewN | apply Kd.R_drew)); exact Kd.R_mono HO151.out (fun _ hk => ⟨⟨hk.1.1.2, hk.1.2⟩, hk.2⟩)) hg hat)
                have n5_ := Aside0.mk (hb)
                have n6_ := Aside0.mk ((show Kd.C (Kd.int .i64) w89 Ao81 y142.length y142 from by rw [Ny142.out]; exact Kd.C_take (m := ((ji62) : Int).toNat) ((Kd.R_reads' (Kd.R_after (ok := (fun k_ => some k_ ≠ (u8 : Value).ownBlock ∧ some k_ ≠ (v150 : Value).ownBlock)) (oR HO_7.out) hg hat)).2.2) KL83.out))
                have n7_ := Aside0.mk ((show Kd.C (Kd.int .i64) w89 A84 y155.length y155 from by rw [Ny155.out, KA84.out]; exact Kd.C_drop (m := ((ji62) : Int).toNat) (c := co81) ((Kd.R_reads' (Kd.R_after (ok := (fun k_ => some k_ ≠ (u8 : Value).ownBlock ∧ some k_ ≠ (v150 : Value).ownBlock)) (oR HO_7.out) hg hat)).2.2) KL84.out ((Kd.R_reads' (Kd.R_after (ok := (fun k_ => some k_ ≠ (u8 : Value).ownBlock ∧ some k_ ≠ (v150 : Value).ownBlock)) (oR HO_7.out) hg hat)).2.1)))
                have n8_ := Aside0.mk (ho)
                clear HO_7
                clear HO_8
                clear BK101
                clear BK102
                clear HO151
                clear HB
                clear HR145
                clear HR158
                clear HO141
                have HO_7 := n0_
                have HO_8 := n1_
                have BK101 := n2_
                have BK102 := n3_
                have HO151 := n4_
                have HB := n5_
                have HR145 := n6_
                have HR158 := n7_
                have HO148 := n8_
                clear n0_ n1_ n2_ n3_ n4_ n5_ n6_ n7_ n8_
                clear ho hb hg hat
                refine hK.out _ _ trivial (fun hHeld => ?_)
                clear hK K
                refine norm_ (a' := ?_) ?_ ?_
                rotate_left
                ·show Act.put _ (some 73) _ = _
                 simp only [putR, i64_w, i32_w]
                 rfl
                exact norm_ (by simp only [putAll, Act.put, List.setIfInBounds_toArray, List.set_cons_zero, List.set_cons_succ]) (hCont (v140, v147, v150) _ ⟨(by (with_reducible repeat (first | apply Kd.R_alloc | apply Kd.R_drewN | apply Kd.R_drew)); exact Kd.R_mono HO148.out (fun _ hk => ⟨hk.2.2, ⟨hk.1, hk.2.1⟩⟩)), (by (with_reducible repeat (first | apply Kd.R_alloc | apply Kd.R_drewN | apply Kd.R_drew)); exact Kd.R_mono HO151.out (fun _ hk => ⟨hk.2, ⟨hk.1.1, hk.1.2⟩⟩)), (by (with_reducible repeat (first | apply Kd.R_alloc | apply Kd.R_drewN | apply Kd.R_drew)); exact Kd.R_mono HO_7.out (fun _ hk => ⟨hk.2, ⟨hk.1.2, hk.1.1⟩⟩)), (by (with_reducible repeat (first | apply Kd.R_alloc | apply Kd.R_drewN | apply Kd.R_drew)); exact Kd.R_mono HO_8.out (fun _ hk => ⟨hk.2, ⟨hk.1.2, hk.1.1⟩⟩)), (oK BK101.out), (oK BK102.out), (oB2 HB.out GE101.out GE102.out)⟩)
              rintro ⟨v140, v147, v150⟩ w90 ⟨h0_, h1_, h2_, h3_, h4_, h5_, h6_⟩
              have n0_ : Aside0 (Kd.R (Kd.int .i64) 3 w90 w.heap.size (fun k_ => some k_ ≠ (v150 : Value).ownBlock ∧ some k_ ≠ (.slice Ao81 x7_1.length co81 : Value).ownBlock ∧ some k_ ≠ (u8 : Value).ownBlock) v147 y146) := ⟨h0_⟩
              have n1_ : Aside0 (Kd.R (Kd.int .i64) 3 w90 w.heap.size (fun k_ => some k_ ≠ (v147 : Value).ownBlock ∧ some k_ ≠ (.slice Ao81 x7_1.length co81 : Value).ownBlock ∧ some k_ ≠ (u8 : Value).ownBlock) v150 y149) := ⟨h1_⟩
              have n2_ : Aside0 (Kd.R (Kd.int .i64) 3 w90 w.heap.size (fun k_ => some k_ ≠ (v147 : Value).ownBlock ∧ some k_ ≠ (v150 : Value).ownBlock ∧ some k_ ≠ (u8 : Value).ownBlock) (.slice Ao81 x7_1.length co81) x7_1) := ⟨h2_⟩
              have n3_ : Aside0 (Kd.R (Kd.int .i64) 3 w90 w.heap.size (fun k_ => some k_ ≠ (v147 : Value).ownBlock ∧ some k_ ≠ (v150 : Value).ownBlock ∧ some k_ ≠ (.slice Ao81 x7_1.length co81 : Value).ownBlock) u8 x8_1) := ⟨h3_⟩
              have n4_ : Aside0 (w90.heap[gb101]? = some (.cells #[.int .i64 a0_0, .int .i64 a0_1, .int .i64 a0_2] 35 (0, 0))) := ⟨h4_⟩
              have n5_ : Aside0 (w90.heap[gb102]? = some (.cells #[.int .i32 a1_0, .int .i32 a1_1, .int .u16 a1_2, .int .u16 a1_3, .int .u16 a1_4, .int .u16 a1_5, .int .u8 a1_6, .int .u8 a1_7, .int .u8 a1_8, .int .u8 a1_9, .int .u8 a1_10] 47 (0, 0))) := ⟨h5_⟩
              have n6_ : Aside0 (Below w.heap.size w w90) := ⟨h6_⟩
              clear HO_7
              clear HO_8
              clear BK101
              clear BK102
              clear HB
              clear h0_ h1_ h2_ h3_ h4_ h5_ h6_
              have HO148 := n0_
              have HO151 := n1_
              have HO_7 := n2_
              have HO_8 := n3_
              have BK101 := n4_
              have BK102 := n5_
              have HB := n6_
              clear n0_ n1_ n2_ n3_ n4_ n5_ n6_
              have hHeld := trivial
              obtain ⟨Ao92, co92, eo92⟩ := Kd.R_slice HO151.out
              (first | subst eo92 | (injection eo92 with f1_ f2_ f3_; have f4_ := f1_.symm; have f5_ := f3_.symm; clear f1_ f2_ f3_; subst f4_; subst f5_))
              refine norm_ (a' := ?_) ?_ ?_
              rotate_left
              ·simp only [putAll, Act.put, List.setIfInBounds_toArray, List.set_cons_zero, List.set_cons_succ]
               rfl
              refine one_ (i := 7) (N := some 76) #[true, true, true, true, true, true, true, true, true, true, true, false, false] rfl rfl (one_of HT_.out (by kernel_rfl)) (by decide) (fun K hK => ?_)
              refine Kd.R_append_rows_step (Kd.int .i64) (w0 := w) w.heap.size (by rfl) (.tmp 73) (.tmp 75) 29 3 (.int .i64 0) 8 rfl Try.underlying29 info3 rfl (by decide) (by omega) v147 y146 y149 _ _ _ (fun k_ => some k_ ≠ (.slice Ao81 x7_1.length co81 : Value).ownBlock ∧ some k_ ≠ (u8 : Value).ownBlock ∧ some k_ ≠ (.slice Ao92 y149.length co92 : Value).ownBlock) (fun _ => False) rfl rfl ?aO ?aR (fun _ _ h => h) (fun _ h => h.elim) ?aF ?aB ?aS ?aL ?_
              (case aR => repeat (first | exact (Kd.R_reads' HO151.out).2.2 | (with_reducible refine Kd.C_alloc ?_ _) | (with_reducible refine Kd.C_drewN ?_ _) | (with_reducible refine Kd.C_drew ?_)))
              (case aB => exact (oB2 HB.out GE101.out GE102.out))
              (case aF => exact (fun k_ hk => ⟨Kd.fresh' (Kd.R_lt (oR HO_7.out)) k_ hk, Kd.fresh' (Kd.R_lt (oR HO_8.out)) k_ hk, Kd.fresh' (Kd.R_lt (oR HO151.out)) k_ hk⟩))
              (case aO => exact (by (with_reducible repeat (first | apply Kd.R_alloc | apply Kd.R_drewN | apply Kd.R_drew)); exact Kd.R_mono HO148.out (fun _ hk => ⟨hk.2.1, ⟨hk.2.2, hk.1⟩⟩)))
              (case aS => exact (below_size (oB2 HB.out GE101.out GE102.out)))
              (case aL => have := LMc66.out; omega)
              intro v153 w91 ho hb hg hat
              rw [← Ny152.out] at ho
              have n0_ := Aside0.mk (Kd.R_after (ok := (fun k_ => some k_ ≠ (u8 : Value).ownBlock ∧ some k_ ≠ (.slice Ao92 y149.length co92 : Value).ownBlock)) (by (with_reducible repeat (first | apply Kd.R_alloc | apply Kd.R_drewN | apply Kd.R_drew)); exact Kd.R_mono HO_7.out (fun _ hk => ⟨⟨hk.2.2, hk.2.1⟩, hk.1⟩)) hg hat)
              have n1_ := Aside0.mk (Kd.R_after (ok := (fun k_ => some k_ ≠ (.slice Ao81 x7_1.length co81 : Value).ownBlock ∧ some k_ ≠ (.slice Ao92 y149.length co92 : Value).ownBlock)) (by (with_reducible repeat (first | apply Kd.R_alloc | apply Kd.R_drewN | apply Kd.R_drew)); exact Kd.R_mono HO_8.out (fun _ hk => ⟨⟨hk.2.2, hk.2.1⟩, hk.1⟩)) hg hat)
              have n2_ := Aside0.mk (blk_grown (g := gb101) (o := O35 a0_0 a0_1 a0_2) (oK BK101.out) hg (Kd.R_ne HO148.out BK101.out (by decide)))
              have n3_ := Aside0.mk (blk_grown (g := gb102) (o := O47 a1_0 a1_1 a1_2 a1_3 a1_4 a1_5 a1_6 a1_7 a1_8 a1_9 a1_10) (oK BK102.out) hg (Kd.R_ne HO148.out BK102.out (by decide)))
              have n4_ := Aside0.mk (Kd.R_after (ok := (fun k_ => some k_ ≠ (.slice Ao81 x7_1.length co81 : Value).ownBlock ∧ some k_ ≠ (u8 : Value).ownBlock)) (by (with_reducible repeat (first | apply Kd.R_alloc | apply Kd.R_drewN | apply Kd.R_drew)); exact Kd.R_mono HO151.out (fun _ hk => ⟨⟨hk.2.1, hk.2.2⟩, hk.1⟩)) hg hat)
              have n5_ := Aside0.mk (hb)
              have n6_ := Aside0.mk (ho)
              clear HO_7
              clear HO_8
              clear BK101
              clear BK102
              clear HO151
              clear HB
              clear HO148
              have HO_7 := n0_
              have HO_8 := n1_
              have BK101 := n2_
              have BK102 := n3_
              have HO151 := n4_
              have HB := n5_
              have HO154 := n6_
              clear n0_ n1_ n2_ n3_ n4_ n5_ n6_
              clear ho hb hg hat
              refine hK.out _ _ trivial (fun hHeld => ?_)
              clear hK K
              refine norm_ (a' := ?_) ?_ ?_
              rotate_left
              ·show Act.put _ (some 76) _ = _
               simp only [putR, i64_w, i32_w]
               rfl
              refine one_ (i := 11) (N := some 80) #[true, true, true, true, true, true, true, true, true, true, true, true, false] rfl rfl (one_of HT_.out (by kernel_rfl)) (by decide) (fun K hK => ?_)
              refine Kd.R_append_rows_step (Kd.int .i64) (w0 := w) w.heap.size (by rfl) (.tmp 76) (.tmp 79) 29 3 (.int .i64 0) 8 rfl Try.underlying29 info3 rfl (by decide) (by omega) v153 y152 y155 _ _ _ (fun k_ => some k_ ≠ (.slice Ao81 x7_1.length co81 : Value).ownBlock ∧ some k_ ≠ (u8 : Value).ownBlock ∧ some k_ ≠ (.slice Ao92 y149.length co92 : Value).ownBlock) (fun _ => False) rfl rfl ?aO ?aR (fun _ _ h => h) (fun _ h => h.elim) ?aF ?aB ?aS ?aL ?_
              (case aR => exact (show Kd.C (Kd.int .i64) _ A84 y155.length y155 from by rw [Ny155.out, KA84.out]; exact Kd.C_drop (m := ((ji62) : Int).toNat) (c := co81) ((Kd.R_reads' HO_7.out).2.2) KL84.out ((Kd.R_reads' HO_7.out).2.1)))
              (case aB => exact (oB2 HB.out GE101.out GE102.out))
              (case aF => exact (fun k_ hk => ⟨Kd.fresh' (Kd.R_lt (oR HO_7.out)) k_ hk, Kd.fresh' (Kd.R_lt (oR HO_8.out)) k_ hk, Kd.fresh' (Kd.R_lt (oR HO151.out)) k_ hk⟩))
              (case aO => exact (oR HO154.out))
              (case aS => exact (below_size (oB2 HB.out GE101.out GE102.out)))
              (case aL => have := LMc69.out; omega)
              intro v160 w93 ho hb hg hat
              rw [← Ny159.out] at ho
              have n0_ := Aside0.mk (Kd.R_after (ok := (fun k_ => some k_ ≠ (u8 : Value).ownBlock ∧ some k_ ≠ (.slice Ao92 y149.length co92 : Value).ownBlock)) (oR HO_7.out) hg hat)
              have n1_ := Aside0.mk (Kd.R_after (ok := (fun k_ => some k_ ≠ (.slice Ao81 x7_1.length co81 : Value).ownBlock ∧ some k_ ≠ (.slice Ao92 y149.length co92 : Value).ownBlock)) (oR HO_8.out) hg hat)
              have n2_ := Aside0.mk (blk_grown (g := gb101) (o := O35 a0_0 a0_1 a0_2) (oK BK101.out) hg (Kd.R_ne HO154.out BK101.out (by decide)))
              have n3_ := Aside0.mk (blk_grown (g := gb102) (o := O47 a1_0 a1_1 a1_2 a1_3 a1_4 a1_5 a1_6 a1_7 a1_8 a1_9 a1_10) (oK BK102.out) hg (Kd.R_ne HO154.out BK102.out (by decide)))
              have n4_ := Aside0.mk (Kd.R_after (ok := (fun k_ => some k_ ≠ (.slice Ao81 x7_1.length co81 : Value).ownBlock ∧ some k_ ≠ (u8 : Value).ownBlock)) (oR HO151.out) hg hat)
              have n5_ := Aside0.mk (hb)
              have n6_ := Aside0.mk (ho)
              clear HO_7
              clear HO_8
              clear BK101
              clear BK102
              clear HO151
              clear HB
              clear HO154
              have HO_7 := n0_
              have HO_8 := n1_
              have BK101 := n2_
              have BK102 := n3_
              have HO151 := n4_
              have HB := n5_
              have HO161 := n6_
              clear n0_ n1_ n2_ n3_ n4_ n5_ n6_
              clear ho hb hg hat
              refine hK.out _ _ trivial (fun hHeld => ?_)
              clear hK K
              refine norm_ (a' := ?_) ?_ ?_
              rotate_left
              ·show Act.put _ (some 80) _ = _
               simp only [putR, i64_w, i32_w]
               rfl
              refine pure_ (i := 12) (N := some 12) (v := ?_) (a' := ?_) #[true, true, true, true, true, true, true, true, true, true, true, true, true] rfl rfl (any_of HT_.out (by kernel_rfl)) (fun _ _ _ h => h) (Or.inl ⟨by rfl, ?_⟩) ?_ ?_
              rotate_left
              ·intro w'
               go_simp
               with_reducible rfl
              rotate_left
              ·simp only [putR, i64_w, i32_w]
               rfl
              refine done_ (done_of HT_.out (by kernel_rfl)) ?_
              try go_wp2
              have n0_ := Aside0.mk (Kd.R_drew HO_7.out)
              have n1_ := Aside0.mk (Kd.R_drew HO_8.out)
              have n2_ := Aside0.mk (Kd.R_drew HO151.out)
              have n3_ := Aside0.mk (Kd.R_drew HO161.out)
              have n4_ := Aside0.mk (blk_drew BK101.out)
              have n5_ := Aside0.mk (blk_drew BK102.out)
              have n6_ := Aside0.mk (below_drew1 HB.out)
              clear HO_7
              clear HO_8
              clear HO151
              clear HO161
              clear BK101
              clear BK102
              clear HB
              have HO_7 := n0_
              have HO_8 := n1_
              have HO151 := n2_
              have HO161 := n3_
              have BK101 := n4_
              have BK102 := n5_
              have HB := n6_
              clear n0_ n1_ n2_ n3_ n4_ n5_ n6_
              obtain ⟨Ao96, co96, eo96⟩ := Kd.R_slice HO_8.out
              (first | subst eo96 | (injection eo96 with f1_ f2_ f3_; have f4_ := f1_.symm; have f5_ := f3_.symm; clear f1_ f2_ f3_; subst f4_; subst f5_))
              have q95 : ((ji62) : Int) ≤ ((x8_1.length : Int) : Int) := of_decide_eq_true (by first | (with_reducible assumption) | assumption)
              obtain ⟨i095, hi095, _, hsz95, _⟩ := info_parts info3
              have hroom95 : x8_1.length ≤ co96 := (Kd.R_reads' HO_8.out).2.1
              have hC95 : Kd.C (Kd.int .i64) _ Ao96 x8_1.length x8_1 := (Kd.R_reads' HO_8.out).2.2
              have hcut95 := cut_to (P := Try.prog) 29 3 .i64 Try.underlying29 hi095 Ao96 x8_1.length co96 (ji62) (of_decide_eq_true (by first | (with_reducible assumption) | assumption)) q95 hroom95
              have hr95 := Kd.C_take (m := ((ji62) : Int).toNat) hC95 (by omega)
              have hy95 : y165.length = ((ji62) : Int).toNat := (by rw [Ny165.out, List.length_take]; omega)
              rw [← Ny165.out] at hr95
              rw [← hy95] at hcut95
              have HR168 := Aside0.mk hr95
              have HC168 := Aside0.mk (show y165.length ≤ co96 from by omega)
              clear hr95 hC95 hroom95 hi095 hsz95
              have KY95 := Aside0.mk hy95
              clear hy95
              have KL95 := Aside0.mk (show ((ji62) : Int).toNat ≤ x8_1.length from by omega)
              replace q95 := eq_true q95
              have q97 : ((ji62) : Int) ≤ ((x8_1.length : Int) : Int) := of_decide_eq_true (by first | (with_reducible assumption) | assumption)
              obtain ⟨i097, hi097, _, hsz97, _⟩ := info_parts info3
              have hroom97 : x8_1.length ≤ co96 := (Kd.R_reads' HO_8.out).2.1
              have hC97 : Kd.C (Kd.int .i64) _ Ao96 x8_1.length x8_1 := (Kd.R_reads' HO_8.out).2.2
              have q097 : (0 : Int) ≤ ((ji62) : Int) := of_decide_eq_true (by first | (with_reducible assumption) | assumption)
              have hcut97 := cut_from (P := Try.prog) 29 3 .i64 Try.underlying29 hi097 1 hsz97 Ao96 x8_1.length co96 (ji62) q097 q97
              have hr97 := Kd.C_drop (m := ((ji62) : Int).toNat) (c := co96) hC97 (by omega) hroom97
              obtain ⟨A97, hA97⟩ : ∃ A1, A1 = (if co96 = ((ji62) : Int).toNat then Ao96 else (Ao96 : Option Addr).map (·.add (((ji62) : Int).toNat * 1))) := ⟨_, rfl⟩
              obtain ⟨c97, hc97⟩ : ∃ c1, c1 = co96 - ((ji62) : Int).toNat := ⟨_, rfl⟩
              have hy97 : y178.length = x8_1.length - ((ji62) : Int).toNat := (by rw [Ny178.out, List.length_drop] <;> omega)
              rw [show (x8_1).drop ((ji62) : Int).toNat = y178 from Ny178.out.symm] at hr97
              replace hr97 : Kd.C (Kd.int .i64) _ A97 y178.length y178 := (by rw [hA97]; exact hr97)
              rw [← hy97, ← hA97, ← hc97] at hcut97
              have HR181 := Aside0.mk hr97
              have HC181 := Aside0.mk (show y178.length ≤ c97 from by rw [hy97, hc97]; exact Nat.sub_le_sub_right hroom97 _)
              clear hr97 hC97 hroom97 hi097 hsz97 hc97
              have KY97 := Aside0.mk hy97
              have KA97 := Aside0.mk hA97
              clear hy97 hA97
              have KL97 := Aside0.mk (show ((ji62) : Int).toNat ≤ x8_1.length from by omega)
              replace q97 := eq_true q97
              refine start_ (n := 18) (S := fun w' => w'.cell? ⟨gb102, 0, none⟩ = some (.int .i32 a1_0) ∧ w'.cell? ⟨gb102, 1, none⟩ = some (.int .i32 a1_1) ∧ w'.cell? ⟨gb102, 2, none⟩ = some (.int .u16 a1_2) ∧ w'.cell? ⟨gb102, 3, none⟩ = some (.int .u16 a1_3) ∧ w'.cell? ⟨gb102, 4, none⟩ = some (.int .u16 a1_4) ∧ w'.cell? ⟨gb102, 5, none⟩ = some (.int .u16 a1_5) ∧ w'.cell? ⟨gb102, 6, none⟩ = some (.int .u8 a1_6) ∧ w'.cell? ⟨gb102, 7, none⟩ = some (.int .u8 a1_7) ∧ w'.cell? ⟨gb102, 8, none⟩ = some (.int .u8 a1_8) ∧ w'.cell? ⟨gb102, 9, none⟩ = some (.int .u8 a1_9) ∧ w'.cell? ⟨gb102, 10, none⟩ = some (.int .u8 a1_10)) (ds := []) #[false, false, false, false, false, false, false, false, false, false, false, false, false, false, false, false, false, false] (by kernel_rfl) rfl rfl ⟨(blk_cell BK102.out 0).trans rfl, (blk_cell BK102.out 1).trans rfl, (blk_cell BK102.out 2).trans rfl, (blk_cell BK102.out 3).trans rfl, (blk_cell BK102.out 4).trans rfl, (blk_cell BK102.out 5).trans rfl, (blk_cell BK102.out 6).trans rfl, (blk_cell BK102.out 7).trans rfl, (blk_cell BK102.out 8).trans rfl, (blk_cell BK102.out 9).trans rfl, (blk_cell BK102.out 10).trans rfl⟩ (fun hHeld => ?_); refine with_tabW rudderlaw12_VoteBounded.tab13 rudderlaw12_VoteBounded.bits13 (fun HT_ HW_ => ?_)
              generalize w93.drew = w94 at HO_7 HO_8 HO151 HO161 BK101 BK102 HB HR168 HR181 hHeld ⊢
              refine pure_ (i := 1) (N := some 82) (v := ?_) (a' := ?_) #[false, true, false, false, false, false, false, false, false, false, false, false, false, false, false, false, false, false] rfl rfl (any_of HT_.out (by kernel_rfl)) (fun _ _ _ h => h) (Or.inl ⟨by rfl, ?_⟩) ?_ ?_
              rotate_left
              ·intro w'
               go_simp
               with_reducible rfl
              rotate_left
              ·simp only [putR, i64_w, i32_w]
               rfl
              refine pure_ (i := 2) (N := some 83) (v := ?_) (a' := ?_) #[false, true, true, false, false, false, false, false, false, false, false, false, false, false, false, false, false, false] rfl rfl (any_of HT_.out (by kernel_rfl)) (fun _ _ _ h => h) (Or.inl ⟨by rfl, ?_⟩) ?_ ?_
              rotate_left
              ·intro w'
               go_simp
               with_reducible rfl
              rotate_left
              ·simp only [putR, i64_w, i32_w]
               rfl
              refine pure_ (i := 3) (N := some 84) (v := ?_) (a' := ?_) #[false, true, true, true, false, false, false, false, false, false, false, false, false, false, false, false, false, false] rfl rfl (any_of HT_.out (by kernel_rfl)) (fun _ _ _ h => h) (Or.inl ⟨by rfl, ?_⟩) ?_ ?_
              rotate_left
              ·intro w'
               go_simp
               with_reducible rfl
              rotate_left
              ·simp only [putR, i64_w, i32_w]
               rfl
              refine pure_ (i := 5) (N := some 86) (v := ?_) (a' := ?_) #[false, true, true, true, false, true, false, false, false, false, false, false, false, false, false, false, false, false] rfl rfl (any_of HT_.out (by kernel_rfl)) (fun _ _ _ h => h) (Or.inl ⟨by rfl, ?_⟩) ?_ ?_
              rotate_left
              ·intro w'
               go_simp
               with_reducible rfl
              rotate_left
              ·simp only [putR, i64_w, i32_w]
               rfl
              refine pure_ (i := 6) (N := some 87) (v := ?_) (a' := ?_) #[false, true, true, true, false, true, true, false, false, false, false, false, false, false, false, false, false, false] rfl rfl (any_of HT_.out (by kernel_rfl)) (fun _ _ _ h => h) (Or.inl ⟨by rfl, ?_⟩) ?_ ?_
              rotate_left
              ·intro w'
               go_simp
               with_reducible rfl
              rotate_left
              ·simp only [putR, i64_w, i32_w]
               rfl
              refine pure_ (i := 13) (N := some 94) (v := ?_) (a' := ?_) #[false, true, true, true, false, true, true, false, false, false, false, false, false, true, false, false, false, false] rfl rfl (any_of HT_.out (by kernel_rfl)) (fun _ _ _ h => h) (Or.inl ⟨by rfl, ?_⟩) ?_ ?_
              rotate_left
              ·intro w'
               go_simp
               with_reducible rfl
              rotate_left
              ·simp only [putR, i64_w, i32_w]
               rfl
              refine pure_ (i := 14) (N := some 95) (v := ?_) (a' := ?_) #[false, true, true, true, false, true, true, false, false, false, false, false, false, true, true, false, false, false] rfl rfl (any_of HT_.out (by kernel_rfl)) (fun _ _ _ h => h) (Or.inl ⟨by rfl, ?_⟩) ?_ ?_
              rotate_left
              ·intro w'
               go_simp
               with_reducible rfl
              rotate_left
              ·simp only [putR, i64_w, i32_w]
               rfl
              refine pure_ (i := 15) (N := some 96) (v := ?_) (a' := ?_) #[false, true, true, true, false, true, true, false, false, false, false, false, false, true, true, true, false, false] rfl rfl (any_of HT_.out (by kernel_rfl)) (fun _ _ _ h => h) (Or.inl ⟨by rfl, ?_⟩) ?_ ?_
              rotate_left
              ·intro w'
               go_simp
               with_reducible rfl
              rotate_left
              ·simp only [putR, i64_w, i32_w]
               rfl
              refine take_ (i := 7) (N := some 88) (v := ?_) (a' := ?_) #[false, true, true, true, false, true, true, true, false, false, false, false, false, true, true, true, false, false] rfl rfl (take_ofW HT_.out HW_.out (by kernel_rfl)) (fun _ _ _ h => h) (Or.inl ⟨by rfl, ?_⟩) hHeld ?_ ?_
              rotate_left
              ·rintro w' ⟨s0, s1, s2, s3, s4, s5, s6, s7, s8, s9, s10⟩
               go_simp
               with_reducible rfl
              rotate_left
              ·simp only [putR, i64_w, i32_w]
               rfl
              refine pure_ (i := 8) (N := some 89) (v := ?_) (a' := ?_) #[false, true, true, true, false, true, true, true, true, false, false, false, false, true, true, true, false, false] rfl rfl (any_of HT_.out (by kernel_rfl)) (fun _ _ _ h => h) (Or.inl ⟨by rfl, ?_⟩) ?_ ?_
              rotate_left
              ·intro w'
               go_simp
               with_reducible rfl
              rotate_left
              ·simp only [putR, i64_w, i32_w]
               rfl
              refine pure_ (i := 9) (N := some 90) (v := ?_) (a' := ?_) #[false, true, true, true, false, true, true, true, true, true, false, false, false, true, true, true, false, false] rfl rfl (any_of HT_.out (by kernel_rfl)) (fun _ _ _ h => h) (Or.inl ⟨by rfl, ?_⟩) ?_ ?_
              rotate_left
              ·intro w'
               go_simp
               with_reducible rfl
              rotate_left
              ·simp only [putR, i64_w, i32_w]
               rfl
              refine pure_ (i := 10) (N := some 91) (v := ?_) (a' := ?_) #[false, true, true, true, false, true, true, true, true, true, true, false, false, true, true, true, false, false] rfl rfl (any_of HT_.out (by kernel_rfl)) (fun _ _ _ h => h) (Or.inl ⟨by rfl, ?_⟩) ?_ ?_
              rotate_left
              ·intro w'
               go_simp
               with_reducible rfl
              rotate_left
              ·simp only [putR, i64_w, i32_w]
               rfl
              refine join_ (σ := Value × Value × Value) 3 #[true, true, true, true, true, true, true, true, true, true, true, true, false, true, true, true, false, false] (fun s_ => [(81, s_.1), (85, s_.2.1), (92, s_.2.2)]) (fun s_ w' => (w'.cell? ⟨gb102, 0, none⟩ = some (.int .i32 a1_0) ∧ w'.cell? ⟨gb102, 1, none⟩ = some (.int .i32 a1_1) ∧ w'.cell? ⟨gb102, 2, none⟩ = some (.int .u16 a1_2) ∧ w'.cell? ⟨gb102, 3, none⟩ = some (.int .u16 a1_3) ∧ w'.cell? ⟨gb102, 4, none⟩ = some (.int .u16 a1_4) ∧ w'.cell? ⟨gb102, 5, none⟩ = some (.int .u16 a1_5) ∧ w'.cell? ⟨gb102, 6, none⟩ = some (.int .u8 a1_6) ∧ w'.cell? ⟨gb102, 7, none⟩ = some (.int .u8 a1_7) ∧ w'.cell? ⟨gb102, 8, none⟩ = some (.int .u8 a1_8) ∧ w'.cell? ⟨gb102, 9, none⟩ = some (.int .u8 a1_9) ∧ w'.cell? ⟨gb102, 10, none⟩ = some (.int .u8 a1_10)) ∧ (Kd.R (Kd.int .i64) 3 w' w.heap.size (fun k_ => some k_ ≠ (v160 : Value).ownBlock ∧ some k_ ≠ (s_.2.1 : Value).ownBlock ∧ some k_ ≠ (s_.2.2 : Value).ownBlock ∧ some k_ ≠ (.slice Ao81 x7_1.length co81 : Value).ownBlock ∧ some k_ ≠ (.slice Ao96 x8_1.length co96 : Value).ownBlock) (.slice Ao92 y149.length co92) y149) ∧ (Kd.R (Kd.int .i64) 3 w' w.heap.size (fun k_ => some k_ ≠ (.slice Ao92 y149.length co92 : Value).ownBlock ∧ some k_ ≠ (s_.2.1 : Value).ownBlock ∧ some k_ ≠ (s_.2.2 : Value).ownBlock ∧ some k_ ≠ (.slice Ao81 x7_1.length co81 : Value).ownBlock ∧ some k_ ≠ (.slice Ao96 x8_1.length co96 : Value).ownBlock) v160 y159) ∧ (Kd.R (Kd.int .i64) 3 w' w.heap.size (fun k_ => some k_ ≠ (.slice Ao92 y149.length co92 : Value).ownBlock ∧ some k_ ≠ (v160 : Value).ownBlock ∧ some k_ ≠ (s_.2.2 : Value).ownBlock ∧ some k_ ≠ (.slice Ao81 x7_1.length co81 : Value).ownBlock ∧ some k_ ≠ (.slice Ao96 x8_1.length co96 : Value).ownBlock) s_.2.1 y169) ∧ (Kd.R (Kd.int .i64) 3 w' w.heap.size (fun k_ => some k_ ≠ (.slice Ao92 y149.length co92 : Value).ownBlock ∧ some k_ ≠ (v160 : Value).ownBlock ∧ some k_ ≠ (s_.2.1 : Value).ownBlock ∧ some k_ ≠ (.slice Ao81 x7_1.length co81 : Value).ownBlock ∧ some k_ ≠ (.slice Ao96 x8_1.length co96 : Value).ownBlock) s_.2.2 y172) ∧ (Kd.R (Kd.int .i64) 3 w' w.heap.size (fun k_ => some k_ ≠ (.slice Ao92 y149.length co92 : Value).ownBlock ∧ some k_ ≠ (v160 : Value).ownBlock ∧ some k_ ≠ (s_.2.1 : Value).ownBlock ∧ some k_ ≠ (s_.2.2 : Value).ownBlock ∧ some k_ ≠ (.slice Ao96 x8_1.length co96 : Value).ownBlock) (.slice Ao81 x7_1.length co81) x7_1) ∧ (Kd.R (Kd.int .i64) 3 w' w.heap.size (fun k_ => some k_ ≠ (.slice Ao92 y149.length co92 : Value).ownBlock ∧ some k_ ≠ (v160 : Value).ownBlock ∧ some k_ ≠ (s_.2.1 : Value).ownBlock ∧ some k_ ≠ (s_.2.2 : Value).ownBlock ∧ some k_ ≠ (.slice Ao81 x7_1.length co81 : Value).ownBlock) (.slice Ao96 x8_1.length co96) x8_1) ∧ (w'.heap[gb101]? = some (.cells #[.int .i64 a0_0, .int .i64 a0_1, .int .i64 a0_2] 35 (0, 0))) ∧ (w'.heap[gb102]? = some (.cells #[.int .i32 a1_0, .int .i32 a1_1, .int .u16 a1_2, .int .u16 a1_3, .int .u16 a1_4, .int .u16 a1_5, .int .u8 a1_6, .int .u8 a1_7, .int .u8 a1_8, .int .u8 a1_9, .int .u8 a1_10] 47 (0, 0))) ∧ (Below w.heap.size w w')) ?_ ?_
              rotate_left
              ·intro hCont
               refine two_ (i := 0) (j := 11) (Ni := some 81) (Nj := some 92) #[true, true, true, true, false, true, true, true, true, true, true, false, false, true, true, true, false, false] #[false, true, true, true, false, true, true, true, true, true, true, true, false, true, true, true, false, false] rfl rfl rfl rfl (two_of HT_.out (by kernel_rfl)) (by decide) (by decide) (fun K hK => ?_) (fun K hK => ?_)
               ·skip
                refine Kd.R_lit_step (Kd.int .i64) _ 3 ?hg (N := 81) ?hd (xs := ([] : List Int)) (inner := []) (ok := fun _ => True) (okp := fun _ => True) ?hr ?hp (fun _ hk => hk) trivial (Below.refl _ _) (Nat.le_refl _) (by simp) ?_; (case hd => rfl); (case hg => rfl); (case hr => first | (go_simp; done) | (go_simp; rfl)); (case hp => exact (Reps.none _ _))
                intro v163 w98 ho99 hb hg_ hnew_
                clear hg_ hnew_
                (first | rw [← Ny162.out] at ho99 | (simp only [Int.reduceToNat] at ho99; rw [← Ny162.out] at ho99))
                have n0_ := Aside0.mk (Kd.R_elder' (oR HO_7.out) (Kd.R_base ho99) hb)
                have n1_ := Aside0.mk (Kd.R_elder' (oR HO_8.out) (Kd.R_base ho99) hb)
                have n2_ := Aside0.mk (Kd.R_elder' (oR HO151.out) (Kd.R_base ho99) hb)
                have n3_ := Aside0.mk (Kd.R_elder' (oR HO161.out) (Kd.R_base ho99) hb)
                have n4_ := Aside0.mk (Kd.R_lower (Kd.R_new' (Kd.R_new' (Kd.R_new' (Kd.R_new' ho99 (Kd.R_lt (oR HO_7.out))) (Kd.R_lt (oR HO_8.out))) (Kd.R_lt (oR HO151.out))) (Kd.R_lt (oR HO161.out))) (below_size (oB2 HB.out GE101.out GE102.out)))
                have n5_ := Aside0.mk (blk_below (g := gb101) (o := O35 a0_0 a0_1 a0_2) (oK BK101.out) hb)
                have n6_ := Aside0.mk (blk_below (g := gb102) (o := O47 a1_0 a1_1 a1_2 a1_3 a1_4 a1_5 a1_6 a1_7 a1_8 a1_9 a1_10) (oK BK102.out) hb)
                have n7_ := Aside0.mk (Kd.C_below (oC HR168.out) hb)
                have n8_ := Aside0.mk (Kd.C_below (oC HR181.out) hb)
                have n9_ := Aside0.mk (below_step (oB2 HB.out GE101.out GE102.out) hb)
                clear HO_7
                clear HO_8
                clear HO151
                clear HO161
                clear BK101
                clear BK102
                clear HR168
                clear HR181
                clear HB
                have HO_7 := n0_
                have HO_8 := n1_
                have HO151 := n2_
                have HO161 := n3_
                have HO164 := n4_
                have BK101 := n5_
                have BK102 := n6_
                have HR168 := n7_
                have HR181 := n8_
                have HB := n9_
                clear n0_ n1_ n2_ n3_ n4_ n5_ n6_ n7_ n8_ n9_
                clear hb ho99
                refine hK.out _ _ ⟨(blk_cell BK102.out 0).trans rfl, (blk_cell BK102.out 1).trans rfl, (blk_cell BK102.out 2).trans rfl, (blk_cell BK102.out 3).trans rfl, (blk_cell BK102.out 4).trans rfl, (blk_cell BK102.out 5).trans rfl, (blk_cell BK102.out 6).trans rfl, (blk_cell BK102.out 7).trans rfl, (blk_cell BK102.out 8).trans rfl, (blk_cell BK102.out 9).trans rfl, (blk_cell BK102.out 10).trans rfl⟩ (fun hHeld => ?_)
                clear hK K
                refine norm_ (a' := ?_) ?_ ?_
                rotate_left
                ·show Act.put _ (some 81) _ = _
                 simp only [putR, i64_w, i32_w]
                 rfl
                refine two_ (i := 4) (j := 11) (Ni := some 85) (Nj := some 92) #[true, true, true, true, true, true, true, true, true, true, true, false, false, true, true, true, false, false] #[true, true, true, true, false, true, true, true, true, true, true, true, false, true, true, true, false, false] rfl rfl rfl rfl (two_of HT_.out (by kernel_rfl)) (by decide) (by decide) (fun K hK => ?_) (fun K hK => ?_)
                ·skip
                 refine Kd.R_append_rows_step (Kd.int .i64) (w0 := w) w.heap.size (by rfl) (.tmp 81) (.tmp 84) 29 3 (.int .i64 0) 8 rfl Try.underlying29 info3 rfl (by decide) (by omega) v163 y162 y165 _ _ _ (fun k_ => some k_ ≠ (.slice Ao81 x7_1.length co81 : Value).ownBlock ∧ some k_ ≠ (.slice Ao96 x8_1.length co96 : Value).ownBlock ∧ some k_ ≠ (.slice Ao92 y149.length co92 : Value).ownBlock ∧ some k_ ≠ (v160 : Value).ownBlock) (fun _ => False) rfl rfl ?aO ?aR (fun _ _ h => h) (fun _ h => h.elim) ?aF ?aB ?aS ?aL ?_
                 (case aR => repeat (first | exact (oC HR168.out) | (with_reducible refine Kd.C_alloc ?_ _) | (with_reducible refine Kd.C_drewN ?_ _) | (with_reducible refine Kd.C_drew ?_)))
                 (case aB => exact (oB2 HB.out GE101.out GE102.out))
                 (case aF => exact (fun k_ hk => ⟨Kd.fresh' (Kd.R_lt (oR HO_7.out)) k_ hk, Kd.fresh' (Kd.R_lt (oR HO_8.out)) k_ hk, Kd.fresh' (Kd.R_lt (oR HO151.out)) k_ hk, Kd.fresh' (Kd.R_lt (oR HO161.out)) k_ hk⟩))
                 (case aO => exact (by (with_reducible repeat (first | apply Kd.R_alloc | apply Kd.R_drewN | apply Kd.R_drew)); exact Kd.R_mono HO164.out (fun _ hk => ⟨hk.1.1.1.2, ⟨hk.1.1.2, ⟨hk.1.2, hk.2⟩⟩⟩)))
                 (case aS => exact (below_size (oB2 HB.out GE101.out GE102.out)))
                 (case aL => have := LMc72.out; omega)
                 intro v170 w100 ho hb hg hat
                 rw [← Ny169.out] at ho
                 have n0_ := Aside0.mk (Kd.R_after (ok := (fun k_ => some k_ ≠ (.slice Ao96 x8_1.length co96 : Value).ownBlock ∧ some k_ ≠ (.slice Ao92 y149.length co92 : Value).ownBlock ∧ some k_ ≠ (v160 : Value).ownBlock)) (by (with_reducible repeat (first | apply Kd.R_alloc | apply Kd.R_drewN | apply Kd.R_drew)); exact Kd.R_mono HO_7.out (fun _ hk => ⟨⟨hk.1.1.1, ⟨hk.1.1.2, hk.1.2⟩⟩, hk.2⟩)) hg hat)
                 have n1_ := Aside0.mk (Kd.R_after (ok := (fun k_ => some k_ ≠ (.slice Ao81 x7_1.length co81 : Value).ownBlock ∧ some k_ ≠ (.slice Ao92 y149.length co92 : Value).ownBlock ∧ some k_ ≠ (v160 : Value).ownBlock)) (by (with_reducible repeat (first | apply Kd.R_alloc | apply Kd.R_drewN | apply Kd.R_drew)); exact Kd.R_mono HO_8.out (fun _ hk => ⟨⟨hk.1.1.1, ⟨hk.1.1.2, hk.1.2⟩⟩, hk.2⟩)) hg hat)
                 have n2_ := Aside0.mk (blk_grown (g := gb101) (o := O35 a0_0 a0_1 a0_2) (oK BK101.out) hg (Kd.R_ne HO164.out BK101.out (by decide)))
                 have n3_ := Aside0.mk (blk_grown (g := gb102) (o := O47 a1_0 a1_1 a1_2 a1_3 a1_4 a1_5 a1_6 a1_7 a1_8 a1_9 a1_10) (oK BK102.out) hg (Kd.R_ne HO164.out BK102.out (by decide)))
                 have n4_ := Aside0.mk (Kd.R_after (ok := (fun k_ => some k_ ≠ (.slice Ao81 x7_1.length co81 : Value).ownBlock ∧ some k_ ≠ (.slice Ao96 x8_1.length co96 : Value).ownBlock ∧ some k_ ≠ (v160 : Value).ownBlock)) (by (with_reducible repeat (first | apply Kd.R_alloc | apply Kd.R_drewN | apply Kd.R_drew)); exact Kd.R_mono HO151.out (fun _ hk => ⟨⟨hk.1.1.1, ⟨hk.1.1.2, hk.1.2⟩⟩, hk.2⟩)) hg hat)
                 have n5_ := Aside0.mk (Kd.R_after (ok := (fun k_ => some k_ ≠ (.slice Ao81 x7_1.length co81 : Value).ownBlock ∧ some k_ ≠ (.slice Ao96 x8_1.length co96 : Value).ownBlock ∧ some k_ ≠ (.slice Ao92 y149.length co92 : Value).ownBlock)) (oR HO161.out) hg hat)
                 have n6_ := Aside0.mk (hb)
                 have n7_ := Aside0.mk ((show Kd.C (Kd.int .i64) w100 Ao96 y165.length y165 from by rw [Ny165.out]; exact Kd.C_take (m := ((ji62) : Int).toNat) ((Kd.R_reads' (Kd.R_after (ok := (fun k_ => some k_ ≠ (.slice Ao81 x7_1.length co81 : Value).ownBlock ∧ some k_ ≠ (.slice Ao92 y149.length co92 : Value).ownBlock ∧ some k_ ≠ (v160 : Value).ownBlock)) (by (with_reducible repeat (first | apply Kd.R_alloc | apply Kd.R_drewN | apply Kd.R_drew)); exact Kd.R_mono HO_8.out (fun _ hk => ⟨⟨hk.1.1.1, ⟨hk.1.1.2, hk.1.2⟩⟩, hk.2⟩)) hg hat)).2.2) KL95.out))
                 have n8_ := Aside0.mk ((show Kd.C (Kd.int .i64) w100 A97 y178.length y178 from by rw [Ny178.out, KA97.out]; exact Kd.C_drop (m := ((ji62) : Int).toNat) (c := co96) ((Kd.R_reads' (Kd.R_after (ok := (fun k_ => some k_ ≠ (.slice Ao81 x7_1.length co81 : Value).ownBlock ∧ some k_ ≠ (.slice Ao92 y149.length co92 : Value).ownBlock ∧ some k_ ≠ (v160 : Value).ownBlock)) (by (with_reducible repeat (first | apply Kd.R_alloc | apply Kd.R_drewN | apply Kd.R_drew)); exact Kd.R_mono HO_8.out (fun _ hk => ⟨⟨hk.1.1.1, ⟨hk.1.1.2, hk.1.2⟩⟩, hk.2⟩)) hg hat)).2.2) KL97.out ((Kd.R_reads' (Kd.R_after (ok := (fun k_ => some k_ ≠ (.slice Ao81 x7_1.length co81 : Value).ownBlock ∧ some k_ ≠ (.slice Ao92 y149.length co92 : Value).ownBlock ∧ some k_ ≠ (v160 : Value).ownBlock)) (by (with_reducible repeat (first | apply Kd.R_alloc | apply Kd.R_drewN | apply Kd.R_drew)); exact Kd.R_mono HO_8.out (fun _ hk => ⟨⟨hk.1.1.1, ⟨hk.1.1.2, hk.1.2⟩⟩, hk.2⟩)) hg hat)).2.1)))
                 have n9_ := Aside0.mk (ho)
                 clear HO_7
                 clear HO_8
                 clear BK101
                 clear BK102
                 clear HO151
                 clear HO161
                 clear HB
                 clear HR168
                 clear HR181
                 clear HO164
                 have HO_7 := n0_
                 have HO_8 := n1_
                 have BK101 := n2_
                 have BK102 := n3_
                 have HO151 := n4_
                 have HO161 := n5_
                 have HB := n6_
                 have HR168 := n7_
                 have HR181 := n8_
                 have HO171 := n9_
                 clear n0_ n1_ n2_ n3_ n4_ n5_ n6_ n7_ n8_ n9_
                 clear ho hb hg hat
                 refine hK.out _ _ ⟨(blk_cell BK102.out 0).trans rfl, (blk_cell BK102.out 1).trans rfl, (blk_cell BK102.out 2).trans rfl, (blk_cell BK102.out 3).trans rfl, (blk_cell BK102.out 4).trans rfl, (blk_cell BK102.out 5).trans rfl, (blk_cell BK102.out 6).trans rfl, (blk_cell BK102.out 7).trans rfl, (blk_cell BK102.out 8).trans rfl, (blk_cell BK102.out 9).trans rfl, (blk_cell BK102.out 10).trans rfl⟩ (fun hHeld => ?_)
                 clear hK K
                 refine norm_ (a' := ?_) ?_ ?_
                 rotate_left
                 ·show Act.put _ (some 85) _ = _
                  simp only [putR, i64_w, i32_w]
                  rfl
                 refine one_ (i := 11) (N := some 92) #[true, true, true, true, true, true, true, true, true, true, true, true, false, true, true, true, false, false] rfl rfl (one_of HT_.out (by kernel_rfl)) (by decide) (fun K hK => ?_)
                 refine Kd.R_lit_step (Kd.int .i64) _ 3 ?hg (N := 92) ?hd (xs := ([wrap64 ((wrap64 (Int.tmod a1_9 16)) + 1)] : List Int)) (inner := [.int .i64 (wrap64 ((wrap64 (Int.tmod a1_9 16)) + 1))]) (ok := fun _ => True) (okp := fun _ => True) ?hr ?hp (fun _ hk => hk) trivial (Below.refl _ _) (Nat.le_refl _) (by simp) ?_; (case hd => rfl); (case hg => rfl); (case hr => first | (go_simp; done) | (go_simp; rfl)); (case hp => exact (Reps.one (show Kd.M (Kd.int .i64) _ _ _ (wrap64 ((wrap64 (Int.tmod a1_9 16)) + 1)) [.int .i64 (wrap64 ((wrap64 (Int.tmod a1_9 16)) + 1))] from rfl) (Reps.none _ _)))
                 intro v173 w101 ho102 hb hg_ hnew_
                 clear hg_ hnew_
                 (first | rw [← Ny172.out] at ho102 | (simp only [Int.reduceToNat] at ho102; rw [← Ny172.out] at ho102))
                 have n0_ := Aside0.mk (Kd.R_elder' (oR HO_7.out) (Kd.R_base ho102) hb)
                 have n1_ := Aside0.mk (Kd.R_elder' (oR HO_8.out) (Kd.R_base ho102) hb)
                 have n2_ := Aside0.mk (Kd.R_elder' (oR HO151.out) (Kd.R_base ho102) hb)
                 have n3_ := Aside0.mk (Kd.R_elder' (oR HO161.out) (Kd.R_base ho102) hb)
                 have n4_ := Aside0.mk (Kd.R_elder' (oR HO171.out) (Kd.R_base ho102) hb)
                 have n5_ := Aside0.mk (Kd.R_lower (Kd.R_new' (Kd.R_new' (Kd.R_new' (Kd.R_new' (Kd.R_new' ho102 (Kd.R_lt (oR HO_7.out))) (Kd.R_lt (oR HO_8.out))) (Kd.R_lt (oR HO151.out))) (Kd.R_lt (oR HO161.out))) (Kd.R_lt (oR HO171.out))) (below_size (oB2 HB.out GE101.out GE102.out)))
                 have n6_ := Aside0.mk (blk_below (g := gb101) (o := O35 a0_0 a0_1 a0_2) (oK BK101.out) hb)
                 have n7_ := Aside0.mk (blk_below (g := gb102) (o := O47 a1_0 a1_1 a1_2 a1_3 a1_4 a1_5 a1_6 a1_7 a1_8 a1_9 a1_10) (oK BK102.out) hb)
                 have n8_ := Aside0.mk (Kd.C_below (oC HR168.out) hb)
                 have n9_ := Aside0.mk (Kd.C_below (oC HR181.out) hb)
                 have n10_ := Aside0.mk (below_step (oB2 HB.out GE101.out GE102.out) hb)
                 clear HO_7
                 clear HO_8
                 clear HO151
                 clear HO161
                 clear HO171
                 clear BK101
                 clear BK102
                 clear HR168
                 clear HR181
                 clear HB
                 have HO_7 := n0_
                 have HO_8 := n1_
                 have HO151 := n2_
                 have HO161 := n3_
                 have HO171 := n4_
                 have HO174 := n5_
                 have BK101 := n6_
                 have BK102 := n7_
                 have HR168 := n8_
                 have HR181 := n9_
                 have HB := n10_
                 clear n0_ n1_ n2_ n3_ n4_ n5_ n6_ n7_ n8_ n9_ n10_
                 clear hb ho102
                 refine hK.out _ _ ⟨(blk_cell BK102.out 0).trans rfl, (blk_cell BK102.out 1).trans rfl, (blk_cell BK102.out 2).trans rfl, (blk_cell BK102.out 3).trans rfl, (blk_cell BK102.out 4).trans rfl, (blk_cell BK102.out 5).trans rfl, (blk_cell BK102.out 6).trans rfl, (blk_cell BK102.out 7).trans rfl, (blk_cell BK102.out 8).trans rfl, (blk_cell BK102.out 9).trans rfl, (blk_cell BK102.out 10).trans rfl⟩ (fun hHeld => ?_)
                 clear hK K
                 refine norm_ (a' := ?_) ?_ ?_
                 rotate_left
                 ·show Act.put _ (some 92) _ = _
                  simp only [putR, i64_w, i32_w]
                  rfl
                 exact norm_ (by simp only [putAll, Act.put, List.setIfInBounds_toArray, List.set_cons_zero, List.set_cons_succ]) (hCont (v163, v170, v173) _ ⟨hHeld, (by (with_reducible repeat (first | apply Kd.R_alloc | apply Kd.R_drewN | apply Kd.R_drew)); exact Kd.R_mono HO151.out (fun _ hk => ⟨hk.1.1.2.2, ⟨hk.1.2, ⟨hk.2, ⟨hk.1.1.1, hk.1.1.2.1⟩⟩⟩⟩)), (by (with_reducible repeat (first | apply Kd.R_alloc | apply Kd.R_drewN | apply Kd.R_drew)); exact Kd.R_mono HO161.out (fun _ hk => ⟨hk.1.1.2.2, ⟨hk.1.2, ⟨hk.2, ⟨hk.1.1.1, hk.1.1.2.1⟩⟩⟩⟩)), (by (with_reducible repeat (first | apply Kd.R_alloc | apply Kd.R_drewN | apply Kd.R_drew)); exact Kd.R_mono HO171.out (fun _ hk => ⟨hk.1.2.2.1, ⟨hk.1.2.2.2, ⟨hk.2, ⟨hk.1.1, hk.1.2.1⟩⟩⟩⟩)), (by (with_reducible repeat (first | apply Kd.R_alloc | apply Kd.R_drewN | apply Kd.R_drew)); exact Kd.R_mono HO174.out (fun _ hk => ⟨hk.1.1.2, ⟨hk.1.2, ⟨hk.2, ⟨hk.1.1.1.1.2, hk.1.1.1.2⟩⟩⟩⟩)), (by (with_reducible repeat (first | apply Kd.R_alloc | apply Kd.R_drewN | apply Kd.R_drew)); exact Kd.R_mono HO_7.out (fun _ hk => ⟨hk.1.1.2.1, ⟨hk.1.1.2.2, ⟨hk.1.2, ⟨hk.2, hk.1.1.1⟩⟩⟩⟩)), (by (with_reducible repeat (first | apply Kd.R_alloc | apply Kd.R_drewN | apply Kd.R_drew)); exact Kd.R_mono HO_8.out (fun _ hk => ⟨hk.1.1.2.1, ⟨hk.1.1.2.2, ⟨hk.1.2, ⟨hk.2, hk.1.1.1⟩⟩⟩⟩)), (oK BK101.out), (oK BK102.out), (oB2 HB.out GE101.out GE102.out)⟩)
                ·skip
                 refine Kd.R_lit_step (Kd.int .i64) _ 3 ?hg (N := 92) ?hd (xs := ([wrap64 ((wrap64 (Int.tmod a1_9 16)) + 1)] : List Int)) (inner := [.int .i64 (wrap64 ((wrap64 (Int.tmod a1_9 16)) + 1))]) (ok := fun _ => True) (okp := fun _ => True) ?hr ?hp (fun _ hk => hk) trivial (Below.refl _ _) (Nat.le_refl _) (by simp) ?_; (case hd => rfl); (case hg => rfl); (case hr => first | (go_simp; done) | (go_simp; rfl)); (case hp => exact (Reps.one (show Kd.M (Kd.int .i64) _ _ _ (wrap64 ((wrap64 (Int.tmod a1_9 16)) + 1)) [.int .i64 (wrap64 ((wrap64 (Int.tmod a1_9 16)) + 1))] from rfl) (Reps.none _ _)))
                 intro v173 w100 ho101 hb hg_ hnew_
                 clear hg_ hnew_
                 (first | rw [← Ny172.out] at ho101 | (simp only [Int.reduceToNat] at ho101; rw [← Ny172.out] at ho101))
                 have n0_ := Aside0.mk (Kd.R_elder' (oR HO_7.out) (Kd.R_base ho101) hb)
                 have n1_ := Aside0.mk (Kd.R_elder' (oR HO_8.out) (Kd.R_base ho101) hb)
                 have n2_ := Aside0.mk (Kd.R_elder' (oR HO151.out) (Kd.R_base ho101) hb)
                 have n3_ := Aside0.mk (Kd.R_elder' (oR HO161.out) (Kd.R_base ho101) hb)
                 have n4_ := Aside0.mk (Kd.R_elder' (oR HO164.out) (Kd.R_base ho101) hb)
                 have n5_ := Aside0.mk (Kd.R_lower (Kd.R_new' (Kd.R_new' (Kd.R_new' (Kd.R_new' (Kd.R_new' ho101 (Kd.R_lt (oR HO_7.out))) (Kd.R_lt (oR HO_8.out))) (Kd.R_lt (oR HO151.out))) (Kd.R_lt (oR HO161.out))) (Kd.R_lt (oR HO164.out))) (below_size (oB2 HB.out GE101.out GE102.out)))
                 have n6_ := Aside0.mk (blk_below (g := gb101) (o := O35 a0_0 a0_1 a0_2) (oK BK101.out) hb)
                 have n7_ := Aside0.mk (blk_below (g := gb102) (o := O47 a1_0 a1_1 a1_2 a1_3 a1_4 a1_5 a1_6 a1_7 a1_8 a1_9 a1_10) (oK BK102.out) hb)
                 have n8_ := Aside0.mk (Kd.C_below (oC HR168.out) hb)
                 have n9_ := Aside0.mk (Kd.C_below (oC HR181.out) hb)
                 have n10_ := Aside0.mk (below_step (oB2 HB.out GE101.out GE102.out) hb)
                 clear HO_7
                 clear HO_8
                 clear HO151
                 clear HO161
                 clear HO164
                 clear BK101
                 clear BK102
                 clear HR168
                 clear HR181
                 clear HB
                 have HO_7 := n0_
                 have HO_8 := n1_
                 have HO151 := n2_
                 have HO161 := n3_
                 have HO164 := n4_
                 have HO174 := n5_
                 have BK101 := n6_
                 have BK102 := n7_
                 have HR168 := n8_
                 have HR181 := n9_
                 have HB := n10_
                 clear n0_ n1_ n2_ n3_ n4_ n5_ n6_ n7_ n8_ n9_ n10_
                 clear hb ho101
                 refine hK.out _ _ ⟨(blk_cell BK102.out 0).trans rfl, (blk_cell BK102.out 1).trans rfl, (blk_cell BK102.out 2).trans rfl, (blk_cell BK102.out 3).trans rfl, (blk_cell BK102.out 4).trans rfl, (blk_cell BK102.out 5).trans rfl, (blk_cell BK102.out 6).trans rfl, (blk_cell BK102.out 7).trans rfl, (blk_cell BK102.out 8).trans rfl, (blk_cell BK102.out 9).trans rfl, (blk_cell BK102.out 10).trans rfl⟩ (fun hHeld => ?_)
                 clear hK K
                 refine norm_ (a' := ?_) ?_ ?_
                 rotate_left
                 ·show Act.put _ (some 92) _ = _
                  simp only [putR, i64_w, i32_w]
                  rfl
                 refine one_ (i := 4) (N := some 85) #[true, true, true, true, true, true, true, true, true, true, true, true, false, true, true, true, false, false] rfl rfl (one_of HT_.out (by kernel_rfl)) (by decide) (fun K hK => ?_)
                 refine Kd.R_append_rows_step (Kd.int .i64) (w0 := w) w.heap.size (by rfl) (.tmp 81) (.tmp 84) 29 3 (.int .i64 0) 8 rfl Try.underlying29 info3 rfl (by decide) (by omega) v163 y162 y165 _ _ _ (fun k_ => some k_ ≠ (.slice Ao81 x7_1.length co81 : Value).ownBlock ∧ some k_ ≠ (.slice Ao96 x8_1.length co96 : Value).ownBlock ∧ some k_ ≠ (.slice Ao92 y149.length co92 : Value).ownBlock ∧ some k_ ≠ (v160 : Value).ownBlock ∧ some k_ ≠ (v173 : Value).ownBlock) (fun _ => False) rfl rfl ?aO ?aR (fun _ _ h => h) (fun _ h => h.elim) ?aF ?aB ?aS ?aL ?_
                 (case aR => repeat (first | exact (oC HR168.out) | (with_reducible refine Kd.C_alloc ?_ _) | (with_reducible refine Kd.C_drewN ?_ _) | (with_reducible refine Kd.C_drew ?_)))
                 (case aB => exact (oB2 HB.out GE101.out GE102.out))
                 (case aF => exact (fun k_ hk => ⟨Kd.fresh' (Kd.R_lt (oR HO_7.out)) k_ hk, Kd.fresh' (Kd.R_lt (oR HO_8.out)) k_ hk, Kd.fresh' (Kd.R_lt (oR HO151.out)) k_ hk, Kd.fresh' (Kd.R_lt (oR HO161.out)) k_ hk, Kd.fresh' (Kd.R_lt (oR HO174.out)) k_ hk⟩))
                 (case aO => exact (by (with_reducible repeat (first | apply Kd.R_alloc | apply Kd.R_drewN | apply Kd.R_drew)); exact Kd.R_mono HO164.out (fun _ hk => ⟨hk.1.1.1.1.2, ⟨hk.1.1.1.2, ⟨hk.1.1.2, ⟨hk.1.2, hk.2⟩⟩⟩⟩)))
                 (case aS => exact (below_size (oB2 HB.out GE101.out GE102.out)))
                 (case aL => have := LMc72.out; omega)
                 intro v170 w102 ho hb hg hat
                 rw [← Ny169.out] at ho
                 have n0_ := Aside0.mk (Kd.R_after (ok := (fun k_ => some k_ ≠ (.slice Ao96 x8_1.length co96 : Value).ownBlock ∧ some k_ ≠ (.slice Ao92 y149.length co92 : Value).ownBlock ∧ some k_ ≠ (v160 : Value).ownBlock ∧ some k_ ≠ (v173 : Value).ownBlock)) (by (with_reducible repeat (first | apply Kd.R_alloc | apply Kd.R_drewN | apply Kd.R_drew)); exact Kd.R_mono HO_7.out (fun _ hk => ⟨⟨hk.1.1.1.1, ⟨hk.1.1.1.2, ⟨hk.1.1.2, hk.2⟩⟩⟩, hk.1.2⟩)) hg hat)
                 have n1_ := Aside0.mk (Kd.R_after (ok := (fun k_ => some k_ ≠ (.slice Ao81 x7_1.length co81 : Value).ownBlock ∧ some k_ ≠ (.slice Ao92 y149.length co92 : Value).ownBlock ∧ some k_ ≠ (v160 : Value).ownBlock ∧ some k_ ≠ (v173 : Value).ownBlock)) (by (with_reducible repeat (first | apply Kd.R_alloc | apply Kd.R_drewN | apply Kd.R_drew)); exact Kd.R_mono HO_8.out (fun _ hk => ⟨⟨hk.1.1.1.1, ⟨hk.1.1.1.2, ⟨hk.1.1.2, hk.2⟩⟩⟩, hk.1.2⟩)) hg hat)
                 have n2_ := Aside0.mk (blk_grown (g := gb101) (o := O35 a0_0 a0_1 a0_2) (oK BK101.out) hg (Kd.R_ne HO164.out BK101.out (by decide)))
                 have n3_ := Aside0.mk (blk_grown (g := gb102) (o := O47 a1_0 a1_1 a1_2 a1_3 a1_4 a1_5 a1_6 a1_7 a1_8 a1_9 a1_10) (oK BK102.out) hg (Kd.R_ne HO164.out BK102.out (by decide)))
                 have n4_ := Aside0.mk (Kd.R_after (ok := (fun k_ => some k_ ≠ (.slice Ao81 x7_1.length co81 : Value).ownBlock ∧ some k_ ≠ (.slice Ao96 x8_1.length co96 : Value).ownBlock ∧ some k_ ≠ (v160 : Value).ownBlock ∧ some k_ ≠ (v173 : Value).ownBlock)) (by (with_reducible repeat (first | apply Kd.R_alloc | apply Kd.R_drewN | apply Kd.R_drew)); exact Kd.R_mono HO151.out (fun _ hk => ⟨⟨hk.1.1.1.1, ⟨hk.1.1.1.2, ⟨hk.1.1.2, hk.2⟩⟩⟩, hk.1.2⟩)) hg hat)
                 have n5_ := Aside0.mk (Kd.R_after (ok := (fun k_ => some k_ ≠ (.slice Ao81 x7_1.length co81 : Value).ownBlock ∧ some k_ ≠ (.slice Ao96 x8_1.length co96 : Value).ownBlock ∧ some k_ ≠ (.slice Ao92 y149.length co92 : Value).ownBlock ∧ some k_ ≠ (v173 : Value).ownBlock)) (by (with_reducible repeat (first | apply Kd.R_alloc | apply Kd.R_drewN | apply Kd.R_drew)); exact Kd.R_mono HO161.out (fun _ hk => ⟨⟨hk.1.1.1, ⟨hk.1.1.2.1, ⟨hk.1.1.2.2, hk.2⟩⟩⟩, hk.1.2⟩)) hg hat)
                 have n6_ := Aside0.mk (Kd.R_after (ok := (fun k_ => some k_ ≠ (.slice Ao81 x7_1.length co81 : Value).ownBlock ∧ some k_ ≠ (.slice Ao96 x8_1.length co96 : Value).ownBlock ∧ some k_ ≠ (.slice Ao92 y149.length co92 : Value).ownBlock ∧ some k_ ≠ (v160 : Value).ownBlock)) (by (with_reducible repeat (first | apply Kd.R_alloc | apply Kd.R_drewN | apply Kd.R_drew)); exact Kd.R_mono HO174.out (fun _ hk => ⟨⟨hk.1.1.1.1.2, ⟨hk.1.1.1.2, ⟨hk.1.1.2, hk.1.2⟩⟩⟩, hk.2⟩)) hg hat)
                 have n7_ := Aside0.mk (hb)
                 have n8_ := Aside0.mk ((show Kd.C (Kd.int .i64) w102 Ao96 y165.length y165 from by rw [Ny165.out]; exact Kd.C_take (m := ((ji62) : Int).toNat) ((Kd.R_reads' (Kd.R_after (ok := (fun k_ => some k_ ≠ (.slice Ao81 x7_1.length co81 : Value).ownBlock ∧ some k_ ≠ (.slice Ao92 y149.length co92 : Value).ownBlock ∧ some k_ ≠ (v160 : Value).ownBlock ∧ some k_ ≠ (v173 : Value).ownBlock)) (by (with_reducible repeat (first | apply Kd.R_alloc | apply Kd.R_drewN | apply Kd.R_drew)); exact Kd.R_mono HO_8.out (fun _ hk => ⟨⟨hk.1.1.1.1, ⟨hk.1.1.1.2, ⟨hk.1.1.2, hk.2⟩⟩⟩, hk.1.2⟩)) hg hat)).2.2) KL95.out))
                 have n9_ := Aside0.mk ((show Kd.C (Kd.int .i64) w102 A97 y178.length y178 from by rw [Ny178.out, KA97.out]; exact Kd.C_drop (m := ((ji62) : Int).toNat) (c := co96) ((Kd.R_reads' (Kd.R_after (ok := (fun k_ => some k_ ≠ (.slice Ao81 x7_1.length co81 : Value).ownBlock ∧ some k_ ≠ (.slice Ao92 y149.length co92 : Value).ownBlock ∧ some k_ ≠ (v160 : Value).ownBlock ∧ some k_ ≠ (v173 : Value).ownBlock)) (by (with_reducible repeat (first | apply Kd.R_alloc | apply Kd.R_drewN | apply Kd.R_drew)); exact Kd.R_mono HO_8.out (fun _ hk => ⟨⟨hk.1.1.1.1, ⟨hk.1.1.1.2, ⟨hk.1.1.2, hk.2⟩⟩⟩, hk.1.2⟩)) hg hat)).2.2) KL97.out ((Kd.R_reads' (Kd.R_after (ok := (fun k_ => some k_ ≠ (.slice Ao81 x7_1.length co81 : Value).ownBlock ∧ some k_ ≠ (.slice Ao92 y149.length co92 : Value).ownBlock ∧ some k_ ≠ (v160 : Value).ownBlock ∧ some k_ ≠ (v173 : Value).ownBlock)) (by (with_reducible repeat (first | apply Kd.R_alloc | apply Kd.R_drewN | apply Kd.R_drew)); exact Kd.R_mono HO_8.out (fun _ hk => ⟨⟨hk.1.1.1.1, ⟨hk.1.1.1.2, ⟨hk.1.1.2, hk.2⟩⟩⟩, hk.1.2⟩)) hg hat)).2.1)))
                 have n10_ := Aside0.mk (ho)
                 clear HO_7
                 clear HO_8
                 clear BK101
                 clear BK102
                 clear HO151
                 clear HO161
                 clear HO174
                 clear HB
                 clear HR168
                 clear HR181
                 clear HO164
                 have HO_7 := n0_
                 have HO_8 := n1_
                 have BK101 := n2_
                 have BK102 := n3_
                 have HO151 := n4_
                 have HO161 := n5_
                 have HO174 := n6_
                 have HB := n7_
                 have HR168 := n8_
                 have HR181 := n9_
                 have HO171 := n10_
                 clear n0_ n1_ n2_ n3_ n4_ n5_ n6_ n7_ n8_ n9_ n10_
                 clear ho hb hg hat
                 refine hK.out _ _ ⟨(blk_cell BK102.out 0).trans rfl, (blk_cell BK102.out 1).trans rfl, (blk_cell BK102.out 2).trans rfl, (blk_cell BK102.out 3).trans rfl, (blk_cell BK102.out 4).trans rfl, (blk_cell BK102.out 5).trans rfl, (blk_cell BK102.out 6).trans rfl, (blk_cell BK102.out 7).trans rfl, (blk_cell BK102.out 8).trans rfl, (blk_cell BK102.out 9).trans rfl, (blk_cell BK102.out 10).trans rfl⟩ (fun hHeld => ?_)
                 clear hK K
                 refine norm_ (a' := ?_) ?_ ?_
                 rotate_left
                 ·show Act.put _ (some 85) _ = _
                  simp only [putR, i64_w, i32_w]
                  rfl
                 exact norm_ (by simp only [putAll, Act.put, List.setIfInBounds_toArray, List.set_cons_zero, List.set_cons_succ]) (hCont (v163, v170, v173) _ ⟨hHeld, (by (with_reducible repeat (first | apply Kd.R_alloc | apply Kd.R_drewN | apply Kd.R_drew)); exact Kd.R_mono HO151.out (fun _ hk => ⟨hk.1.2.2.1, ⟨hk.2, ⟨hk.1.2.2.2, ⟨hk.1.1, hk.1.2.1⟩⟩⟩⟩)), (by (with_reducible repeat (first | apply Kd.R_alloc | apply Kd.R_drewN | apply Kd.R_drew)); exact Kd.R_mono HO161.out (fun _ hk => ⟨hk.1.2.2.1, ⟨hk.2, ⟨hk.1.2.2.2, ⟨hk.1.1, hk.1.2.1⟩⟩⟩⟩)), (by (with_reducible repeat (first | apply Kd.R_alloc | apply Kd.R_drewN | apply Kd.R_drew)); exact Kd.R_mono HO171.out (fun _ hk => ⟨hk.2.2.1, ⟨hk.2.2.2.1, ⟨hk.2.2.2.2, ⟨hk.1, hk.2.1⟩⟩⟩⟩)), (by (with_reducible repeat (first | apply Kd.R_alloc | apply Kd.R_drewN | apply Kd.R_drew)); exact Kd.R_mono HO174.out (fun _ hk => ⟨hk.1.2.2.1, ⟨hk.1.2.2.2, ⟨hk.2, ⟨hk.1.1, hk.1.2.1⟩⟩⟩⟩)), (by (with_reducible repeat (first | apply Kd.R_alloc | apply Kd.R_drewN | apply Kd.R_drew)); exact Kd.R_mono HO_7.out (fun _ hk => ⟨hk.1.2.1, ⟨hk.1.2.2.1, ⟨hk.2, ⟨hk.1.2.2.2, hk.1.1⟩⟩⟩⟩)), (by (with_reducible repeat (first | apply Kd.R_alloc | apply Kd.R_drewN | apply Kd.R_drew)); exact Kd.R_mono HO_8.out (fun _ hk => ⟨hk.1.2.1, ⟨hk.1.2.2.1, ⟨hk.2, ⟨hk.1.2.2.2, hk.1.1⟩⟩⟩⟩)), (oK BK101.out), (oK BK102.out), (oB2 HB.out GE101.out GE102.out)⟩)
               ·skip
                refine Kd.R_lit_step (Kd.int .i64) _ 3 ?hg (N := 92) ?hd (xs := ([wrap64 ((wrap64 (Int.tmod a1_9 16)) + 1)] : List Int)) (inner := [.int .i64 (wrap64 ((wrap64 (Int.tmod a1_9 16)) + 1))]) (ok := fun _ => True) (okp := fun _ => True) ?hr ?hp (fun _ hk => hk) trivial (Below.refl _ _) (Nat.le_refl _) (by simp) ?_; (case hd => rfl); (case hg => rfl); (case hr => first | (go_simp; done) | (go_simp; rfl)); (case hp => exact (Reps.one (show Kd.M (Kd.int .i64) _ _ _ (wrap64 ((wrap64 (Int.tmod a1_9 16)) + 1)) [.int .i64 (wrap64 ((wrap64 (Int.tmod a1_9 16)) + 1))] from rfl) (Reps.none _ _)))
                intro v173 w98 ho99 hb hg_ hnew_
                clear hg_ hnew_
                (first | rw [← Ny172.out] at ho99 | (simp only [Int.reduceToNat] at ho99; rw [← Ny172.out] at ho99))
                have n0_ := Aside0.mk (Kd.R_elder' (oR HO_7.out) (Kd.R_base ho99) hb)
                have n1_ := Aside0.mk (Kd.R_elder' (oR HO_8.out) (Kd.R_base ho99) hb)
                have n2_ := Aside0.mk (Kd.R_elder' (oR HO151.out) (Kd.R_base ho99) hb)
                have n3_ := Aside0.mk (Kd.R_elder' (oR HO161.out) (Kd.R_base ho99) hb)
                have n4_ := Aside0.mk (Kd.R_lower (Kd.R_new' (Kd.R_new' (Kd.R_new' (Kd.R_new' ho99 (Kd.R_lt (oR HO_7.out))) (Kd.R_lt (oR HO_8.out))) (Kd.R_lt (oR HO151.out))) (Kd.R_lt (oR HO161.out))) (below_size (oB2 HB.out GE101.out GE102.out)))
                have n5_ := Aside0.mk (blk_below (g := gb101) (o := O35 a0_0 a0_1 a0_2) (oK BK101.out) hb)
                have n6_ := Aside0.mk (blk_below (g := gb102) (o := O47 a1_0 a1_1 a1_2 a1_3 a1_4 a1_5 a1_6 a1_7 a1_8 a1_9 a1_10) (oK BK102.out) hb)
                have n7_ := Aside0.mk (Kd.C_below (oC HR168.out) hb)
                have n8_ := Aside0.mk (Kd.C_below (oC HR181.out) hb)
                have n9_ := Aside0.mk (below_step (oB2 HB.out GE101.out GE102.out) hb)
                clear HO_7
                clear HO_8
                clear HO151
                clear HO161
                clear BK101
                clear BK102
                clear HR168
                clear HR181
                clear HB
                have HO_7 := n0_
                have HO_8 := n1_
                have HO151 := n2_
                have HO161 := n3_
                have HO174 := n4_
                have BK101 := n5_
                have BK102 := n6_
                have HR168 := n7_
                have HR181 := n8_
                have HB := n9_
                clear n0_ n1_ n2_ n3_ n4_ n5_ n6_ n7_ n8_ n9_
                clear hb ho99
                refine hK.out _ _ ⟨(blk_cell BK102.out 0).trans rfl, (blk_cell BK102.out 1).trans rfl, (blk_cell BK102.out 2).trans rfl, (blk_cell BK102.out 3).trans rfl, (blk_cell BK102.out 4).trans rfl, (blk_cell BK102.out 5).trans rfl, (blk_cell BK102.out 6).trans rfl, (blk_cell BK102.out 7).trans rfl, (blk_cell BK102.out 8).trans rfl, (blk_cell BK102.out 9).trans rfl, (blk_cell BK102.out 10).trans rfl⟩ (fun hHeld => ?_)
                clear hK K
                refine norm_ (a' := ?_) ?_ ?_
                rotate_left
                ·show Act.put _ (some 92) _ = _
                 simp only [putR, i64_w, i32_w]
                 rfl
                refine one_ (i := 0) (N := some 81) #[true, true, true, true, false, true, true, true, true, true, true, true, false, true, true, true, false, false] rfl rfl (one_of HT_.out (by kernel_rfl)) (by decide) (fun K hK => ?_)
                refine Kd.R_lit_step (Kd.int .i64) _ 3 ?hg (N := 81) ?hd (xs := ([] : List Int)) (inner := []) (ok := fun _ => True) (okp := fun _ => True) ?hr ?hp (fun _ hk => hk) trivial (Below.refl _ _) (Nat.le_refl _) (by simp) ?_; (case hd => rfl); (case hg => rfl); (case hr => first | (go_simp; done) | (go_simp; rfl)); (case hp => exact (Reps.none _ _))
                intro v163 w100 ho101 hb hg_ hnew_
                clear hg_ hnew_
                (first | rw [← Ny162.out] at ho101 | (simp only [Int.reduceToNat] at ho101; rw [← Ny162.out] at ho101))
                have n0_ := Aside0.mk (Kd.R_elder' (oR HO_7.out) (Kd.R_base ho101) hb)
                have n1_ := Aside0.mk (Kd.R_elder' (oR HO_8.out) (Kd.R_base ho101) hb)
                have n2_ := Aside0.mk (Kd.R_elder' (oR HO151.out) (Kd.R_base ho101) hb)
                have n3_ := Aside0.mk (Kd.R_elder' (oR HO161.out) (Kd.R_base ho101) hb)
                have n4_ := Aside0.mk (Kd.R_elder' (oR HO174.out) (Kd.R_base ho101) hb)
                have n5_ := Aside0.mk (Kd.R_lower (Kd.R_new' (Kd.R_new' (Kd.R_new' (Kd.R_new' (Kd.R_new' ho101 (Kd.R_lt (oR HO_7.out))) (Kd.R_lt (oR HO_8.out))) (Kd.R_lt (oR HO151.out))) (Kd.R_lt (oR HO161.out))) (Kd.R_lt (oR HO174.out))) (below_size (oB2 HB.out GE101.out GE102.out)))
                have n6_ := Aside0.mk (blk_below (g := gb101) (o := O35 a0_0 a0_1 a0_2) (oK BK101.out) hb)
                have n7_ := Aside0.mk (blk_below (g := gb102) (o := O47 a1_0 a1_1 a1_2 a1_3 a1_4 a1_5 a1_6 a1_7 a1_8 a1_9 a1_10) (oK BK102.out) hb)
                have n8_ := Aside0.mk (Kd.C_below (oC HR168.out) hb)
                have n9_ := Aside0.mk (Kd.C_below (oC HR181.out) hb)
                have n10_ := Aside0.mk (below_step (oB2 HB.out GE101.out GE102.out) hb)
                clear HO_7
                clear HO_8
                clear HO151
                clear HO161
                clear HO174
                clear BK101
                clear BK102
                clear HR168
                clear HR181
                clear HB
                have HO_7 := n0_
                have HO_8 := n1_
                have HO151 := n2_
                have HO161 := n3_
                have HO174 := n4_
                have HO164 := n5_
                have BK101 := n6_
                have BK102 := n7_
                have HR168 := n8_
                have HR181 := n9_
                have HB := n10_
                clear n0_ n1_ n2_ n3_ n4_ n5_ n6_ n7_ n8_ n9_ n10_
                clear hb ho101
                refine hK.out _ _ ⟨(blk_cell BK102.out 0).trans rfl, (blk_cell BK102.out 1).trans rfl, (blk_cell BK102.out 2).trans rfl, (blk_cell BK102.out 3).trans rfl, (blk_cell BK102.out 4).trans rfl, (blk_cell BK102.out 5).trans rfl, (blk_cell BK102.out 6).trans rfl, (blk_cell BK102.out 7).trans rfl, (blk_cell BK102.out 8).trans rfl, (blk_cell BK102.out 9).trans rfl, (blk_cell BK102.out 10).trans rfl⟩ (fun hHeld => ?_)
                clear hK K
                refine norm_ (a' := ?_) ?_ ?_
                rotate_left
                ·show Act.put _ (some 81) _ = _
                 simp only [putR, i64_w, i32_w]
                 rfl
                refine one_ (i := 4) (N := some 85) #[true, true, true, true, true, true, true, true, true, true, true, true, false, true, true, true, false, false] rfl rfl (one_of HT_.out (by kernel_rfl)) (by decide) (fun K hK => ?_)
                refine Kd.R_append_rows_step (Kd.int .i64) (w0 := w) w.heap.size (by rfl) (.tmp 81) (.tmp 84) 29 3 (.int .i64 0) 8 rfl Try.underlying29 info3 rfl (by decide) (by omega) v163 y162 y165 _ _ _ (fun k_ => some k_ ≠ (.slice Ao81 x7_1.length co81 : Value).ownBlock ∧ some k_ ≠ (.slice Ao96 x8_1.length co96 : Value).ownBlock ∧ some k_ ≠ (.slice Ao92 y149.length co92 : Value).ownBlock ∧ some k_ ≠ (v160 : Value).ownBlock ∧ some k_ ≠ (v173 : Value).ownBlock) (fun _ => False) rfl rfl ?aO ?aR (fun _ _ h => h) (fun _ h => h.elim) ?aF ?aB ?aS ?aL ?_
                (case aR => repeat (first | exact (oC HR168.out) | (with_reducible refine Kd.C_alloc ?_ _) | (with_reducible refine Kd.C_drewN ?_ _) | (with_reducible refine Kd.C_drew ?_)))
                (case aB => exact (oB2 HB.out GE101.out GE102.out))
                (case aF => exact (fun k_ hk => ⟨Kd.fresh' (Kd.R_lt (oR HO_7.out)) k_ hk, Kd.fresh' (Kd.R_lt (oR HO_8.out)) k_ hk, Kd.fresh' (Kd.R_lt (oR HO151.out)) k_ hk, Kd.fresh' (Kd.R_lt (oR HO161.out)) k_ hk, Kd.fresh' (Kd.R_lt (oR HO174.out)) k_ hk⟩))
                (case aO => exact (by (with_reducible repeat (first | apply Kd.R_alloc | apply Kd.R_drewN | apply Kd.R_drew)); exact Kd.R_mono HO164.out (fun _ hk => ⟨hk.1.1.1.1.2, ⟨hk.1.1.1.2, ⟨hk.1.1.2, ⟨hk.1.2, hk.2⟩⟩⟩⟩)))
                (case aS => exact (below_size (oB2 HB.out GE101.out GE102.out)))
                (case aL => have := LMc72.out; omega)
                intro v170 w102 ho hb hg hat
                rw [← Ny169.out] at ho
                have n0_ := Aside0.mk (Kd.R_after (ok := (fun k_ => some k_ ≠ (.slice Ao96 x8_1.length co96 : Value).ownBlock ∧ some k_ ≠ (.slice Ao92 y149.length co92 : Value).ownBlock ∧ some k_ ≠ (v160 : Value).ownBlock ∧ some k_ ≠ (v173 : Value).ownBlock)) (by (with_reducible repeat (first | apply Kd.R_alloc | apply Kd.R_drewN | apply Kd.R_drew)); exact Kd.R_mono HO_7.out (fun _ hk => ⟨⟨hk.1.1.1.1, ⟨hk.1.1.1.2, ⟨hk.1.1.2, hk.1.2⟩⟩⟩, hk.2⟩)) hg hat)
                have n1_ := Aside0.mk (Kd.R_after (ok := (fun k_ => some k_ ≠ (.slice Ao81 x7_1.length co81 : Value).ownBlock ∧ some k_ ≠ (.slice Ao92 y149.length co92 : Value).ownBlock ∧ some k_ ≠ (v160 : Value).ownBlock ∧ some k_ ≠ (v173 : Value).ownBlock)) (by (with_reducible repeat (first | apply Kd.R_alloc | apply Kd.R_drewN | apply Kd.R_drew)); exact Kd.R_mono HO_8.out (fun _ hk => ⟨⟨hk.1.1.1.1, ⟨hk.1.1.1.2, ⟨hk.1.1.2, hk.1.2⟩⟩⟩, hk.2⟩)) hg hat)
                have n2_ := Aside0.mk (blk_grown (g := gb101) (o := O35 a0_0 a0_1 a0_2) (oK BK101.out) hg (Kd.R_ne HO164.out BK101.out (by decide)))
                have n3_ := Aside0.mk (blk_grown (g := gb102) (o := O47 a1_0 a1_1 a1_2 a1_3 a1_4 a1_5 a1_6 a1_7 a1_8 a1_9 a1_10) (oK BK102.out) hg (Kd.R_ne HO164.out BK102.out (by decide)))
                have n4_ := Aside0.mk (Kd.R_after (ok := (fun k_ => some k_ ≠ (.slice Ao81 x7_1.length co81 : Value).ownBlock ∧ some k_ ≠ (.slice Ao96 x8_1.length co96 : Value).ownBlock ∧ some k_ ≠ (v160 : Value).ownBlock ∧ some k_ ≠ (v173 : Value).ownBlock)) (by (with_reducible repeat (first | apply Kd.R_alloc | apply Kd.R_drewN | apply Kd.R_drew)); exact Kd.R_mono HO151.out (fun _ hk => ⟨⟨hk.1.1.1.1, ⟨hk.1.1.1.2, ⟨hk.1.1.2, hk.1.2⟩⟩⟩, hk.2⟩)) hg hat)
                have n5_ := Aside0.mk (Kd.R_after (ok := (fun k_ => some k_ ≠ (.slice Ao81 x7_1.length co81 : Value).ownBlock ∧ some k_ ≠ (.slice Ao96 x8_1.length co96 : Value).ownBlock ∧ some k_ ≠ (.slice Ao92 y149.length co92 : Value).ownBlock ∧ some k_ ≠ (v173 : Value).ownBlock)) (by (with_reducible repeat (first | apply Kd.R_alloc | apply Kd.R_drewN | apply Kd.R_drew)); exact Kd.R_mono HO161.out (fun _ hk => ⟨⟨hk.1.1.1, ⟨hk.1.1.2.1, ⟨hk.1.1.2.2, hk.1.2⟩⟩⟩, hk.2⟩)) hg hat)
                have n6_ := Aside0.mk (Kd.R_after (ok := (fun k_ => some k_ ≠ (.slice Ao81 x7_1.length co81 : Value).ownBlock ∧ some k_ ≠ (.slice Ao96 x8_1.length co96 : Value).ownBlock ∧ some k_ ≠ (.slice Ao92 y149.length co92 : Value).ownBlock ∧ some k_ ≠ (v160 : Value).ownBlock)) (by (with_reducible repeat (first | apply Kd.R_alloc | apply Kd.R_drewN | apply Kd.R_drew)); exact Kd.R_mono HO174.out (fun _ hk => ⟨⟨hk.1.1.1.1.2, ⟨hk.1.1.1.2, ⟨hk.1.1.2, hk.1.2⟩⟩⟩, hk.2⟩)) hg hat)
                have n7_ := Aside0.mk (hb)
                have n8_ := Aside0.mk ((show Kd.C (Kd.int .i64) w102 Ao96 y165.length y165 from by rw [Ny165.out]; exact Kd.C_take (m := ((ji62) : Int).toNat) ((Kd.R_reads' (Kd.R_after (ok := (fun k_ => some k_ ≠ (.slice Ao81 x7_1.length co81 : Value).ownBlock ∧ some k_ ≠ (.slice Ao92 y149.length co92 : Value).ownBlock ∧ some k_ ≠ (v160 : Value).ownBlock ∧ some k_ ≠ (v173 : Value).ownBlock)) (by (with_reducible repeat (first | apply Kd.R_alloc | apply Kd.R_drewN | apply Kd.R_drew)); exact Kd.R_mono HO_8.out (fun _ hk => ⟨⟨hk.1.1.1.1, ⟨hk.1.1.1.2, ⟨hk.1.1.2, hk.1.2⟩⟩⟩, hk.2⟩)) hg hat)).2.2) KL95.out))
                have n9_ := Aside0.mk ((show Kd.C (Kd.int .i64) w102 A97 y178.length y178 from by rw [Ny178.out, KA97.out]; exact Kd.C_drop (m := ((ji62) : Int).toNat) (c := co96) ((Kd.R_reads' (Kd.R_after (ok := (fun k_ => some k_ ≠ (.slice Ao81 x7_1.length co81 : Value).ownBlock ∧ some k_ ≠ (.slice Ao92 y149.length co92 : Value).ownBlock ∧ some k_ ≠ (v160 : Value).ownBlock ∧ some k_ ≠ (v173 : Value).ownBlock)) (by (with_reducible repeat (first | apply Kd.R_alloc | apply Kd.R_drewN | apply Kd.R_drew)); exact Kd.R_mono HO_8.out (fun _ hk => ⟨⟨hk.1.1.1.1, ⟨hk.1.1.1.2, ⟨hk.1.1.2, hk.1.2⟩⟩⟩, hk.2⟩)) hg hat)).2.2) KL97.out ((Kd.R_reads' (Kd.R_after (ok := (fun k_ => some k_ ≠ (.slice Ao81 x7_1.length co81 : Value).ownBlock ∧ some k_ ≠ (.slice Ao92 y149.length co92 : Value).ownBlock ∧ some k_ ≠ (v160 : Value).ownBlock ∧ some k_ ≠ (v173 : Value).ownBlock)) (by (with_reducible repeat (first | apply Kd.R_alloc | apply Kd.R_drewN | apply Kd.R_drew)); exact Kd.R_mono HO_8.out (fun _ hk => ⟨⟨hk.1.1.1.1, ⟨hk.1.1.1.2, ⟨hk.1.1.2, hk.1.2⟩⟩⟩, hk.2⟩)) hg hat)).2.1)))
                have n10_ := Aside0.mk (ho)
                clear HO_7
                clear HO_8
                clear BK101
                clear BK102
                clear HO151
                clear HO161
                clear HO174
                clear HB
                clear HR168
                clear HR181
                clear HO164
                have HO_7 := n0_
                have HO_8 := n1_
                have BK101 := n2_
                have BK102 := n3_
                have HO151 := n4_
                have HO161 := n5_
                have HO174 := n6_
                have HB := n7_
                have HR168 := n8_
                have HR181 := n9_
                have HO171 := n10_
                clear n0_ n1_ n2_ n3_ n4_ n5_ n6_ n7_ n8_ n9_ n10_
                clear ho hb hg hat
                refine hK.out _ _ ⟨(blk_cell BK102.out 0).trans rfl, (blk_cell BK102.out 1).trans rfl, (blk_cell BK102.out 2).trans rfl, (blk_cell BK102.out 3).trans rfl, (blk_cell BK102.out 4).trans rfl, (blk_cell BK102.out 5).trans rfl, (blk_cell BK102.out 6).trans rfl, (blk_cell BK102.out 7).trans rfl, (blk_cell BK102.out 8).trans rfl, (blk_cell BK102.out 9).trans rfl, (blk_cell BK102.out 10).trans rfl⟩ (fun hHeld => ?_)
                clear hK K
                refine norm_ (a' := ?_) ?_ ?_
                rotate_left
                ·show Act.put _ (some 85) _ = _
                 simp only [putR, i64_w, i32_w]
                 rfl
                exact norm_ (by simp only [putAll, Act.put, List.setIfInBounds_toArray, List.set_cons_zero, List.set_cons_succ]) (hCont (v163, v170, v173) _ ⟨hHeld, (by (with_reducible repeat (first | apply Kd.R_alloc | apply Kd.R_drewN | apply Kd.R_drew)); exact Kd.R_mono HO151.out (fun _ hk => ⟨hk.1.2.2.1, ⟨hk.2, ⟨hk.1.2.2.2, ⟨hk.1.1, hk.1.2.1⟩⟩⟩⟩)), (by (with_reducible repeat (first | apply Kd.R_alloc | apply Kd.R_drewN | apply Kd.R_drew)); exact Kd.R_mono HO161.out (fun _ hk => ⟨hk.1.2.2.1, ⟨hk.2, ⟨hk.1.2.2.2, ⟨hk.1.1, hk.1.2.1⟩⟩⟩⟩)), (by (with_reducible repeat (first | apply Kd.R_alloc | apply Kd.R_drewN | apply Kd.R_drew)); exact Kd.R_mono HO171.out (fun _ hk => ⟨hk.2.2.1, ⟨hk.2.2.2.1, ⟨hk.2.2.2.2, ⟨hk.1, hk.2.1⟩⟩⟩⟩)), (by (with_reducible repeat (first | apply Kd.R_alloc | apply Kd.R_drewN | apply Kd.R_drew)); exact Kd.R_mono HO174.out (fun _ hk => ⟨hk.1.2.2.1, ⟨hk.1.2.2.2, ⟨hk.2, ⟨hk.1.1, hk.1.2.1⟩⟩⟩⟩)), (by (with_reducible repeat (first | apply Kd.R_alloc | apply Kd.R_drewN | apply Kd.R_drew)); exact Kd.R_mono HO_7.out (fun _ hk => ⟨hk.1.2.1, ⟨hk.1.2.2.1, ⟨hk.2, ⟨hk.1.2.2.2, hk.1.1⟩⟩⟩⟩)), (by (with_reducible repeat (first | apply Kd.R_alloc | apply Kd.R_drewN | apply Kd.R_drew)); exact Kd.R_mono HO_8.out (fun _ hk => ⟨hk.1.2.1, ⟨hk.1.2.2.1, ⟨hk.2, ⟨hk.1.2.2.2, hk.1.1⟩⟩⟩⟩)), (oK BK101.out), (oK BK102.out), (oB2 HB.out GE101.out GE102.out)⟩)
              rintro ⟨v163, v170, v173⟩ w103 ⟨hS_, h0_, h1_, h2_, h3_, h4_, h5_, h6_, h7_, h8_⟩
              have n0_ : Aside0 (Kd.R (Kd.int .i64) 3 w103 w.heap.size (fun k_ => some k_ ≠ (v160 : Value).ownBlock ∧ some k_ ≠ (v170 : Value).ownBlock ∧ some k_ ≠ (v173 : Value).ownBlock ∧ some k_ ≠ (.slice Ao81 x7_1.length co81 : Value).ownBlock ∧ some k_ ≠ (.slice Ao96 x8_1.length co96 : Value).ownBlock) (.slice Ao92 y149.length co92) y149) := ⟨h0_⟩
              have n1_ : Aside0 (Kd.R (Kd.int .i64) 3 w103 w.heap.size (fun k_ => some k_ ≠ (.slice Ao92 y149.length co92 : Value).ownBlock ∧ some k_ ≠ (v170 : Value).ownBlock ∧ some k_ ≠ (v173 : Value).ownBlock ∧ some k_ ≠ (.slice Ao81 x7_1.length co81 : Value).ownBlock ∧ some k_ ≠ (.slice Ao96 x8_1.length co96 : Value).ownBlock) v160 y159) := ⟨h1_⟩
              have n2_ : Aside0 (Kd.R (Kd.int .i64) 3 w103 w.heap.size (fun k_ => some k_ ≠ (.slice Ao92 y149.length co92 : Value).ownBlock ∧ some k_ ≠ (v160 : Value).ownBlock ∧ some k_ ≠ (v173 : Value).ownBlock ∧ some k_ ≠ (.slice Ao81 x7_1.length co81 : Value).ownBlock ∧ some k_ ≠ (.slice Ao96 x8_1.length co96 : Value).ownBlock) v170 y169) := ⟨h2_⟩
              have n3_ : Aside0 (Kd.R (Kd.int .i64) 3 w103 w.heap.size (fun k_ => some k_ ≠ (.slice Ao92 y149.length co92 : Value).ownBlock ∧ some k_ ≠ (v160 : Value).ownBlock ∧ some k_ ≠ (v170 : Value).ownBlock ∧ some k_ ≠ (.slice Ao81 x7_1.length co81 : Value).ownBlock ∧ some k_ ≠ (.slice Ao96 x8_1.length co96 : Value).ownBlock) v173 y172) := ⟨h3_⟩
              have n4_ : Aside0 (Kd.R (Kd.int .i64) 3 w103 w.heap.size (fun k_ => some k_ ≠ (.slice Ao92 y149.length co92 : Value).ownBlock ∧ some k_ ≠ (v160 : Value).ownBlock ∧ some k_ ≠ (v170 : Value).ownBlock ∧ some k_ ≠ (v173 : Value).ownBlock ∧ some k_ ≠ (.slice Ao96 x8_1.length co96 : Value).ownBlock) (.slice Ao81 x7_1.length co81) x7_1) := ⟨h4_⟩
              have n5_ : Aside0 (Kd.R (Kd.int .i64) 3 w103 w.heap.size (fun k_ => some k_ ≠ (.slice Ao92 y149.length co92 : Value).ownBlock ∧ some k_ ≠ (v160 : Value).ownBlock ∧ some k_ ≠ (v170 : Value).ownBlock ∧ some k_ ≠ (v173 : Value).ownBlock ∧ some k_ ≠ (.slice Ao81 x7_1.length co81 : Value).ownBlock) (.slice Ao96 x8_1.length co96) x8_1) := ⟨h5_⟩
              have n6_ : Aside0 (w103.heap[gb101]? = some (.cells #[.int .i64 a0_0, .int .i64 a0_1, .int .i64 a0_2] 35 (0, 0))) := ⟨h6_⟩
              have n7_ : Aside0 (w103.heap[gb102]? = some (.cells #[.int .i32 a1_0, .int .i32 a1_1, .int .u16 a1_2, .int .u16 a1_3, .int .u16 a1_4, .int .u16 a1_5, .int .u8 a1_6, .int .u8 a1_7, .int .u8 a1_8, .int .u8 a1_9, .int .u8 a1_10] 47 (0, 0))) := ⟨h7_⟩
              have n8_ : Aside0 (Below w.heap.size w w103) := ⟨h8_⟩
              clear HO_7
              clear HO_8
              clear HO151
              clear HO161
              clear BK101
              clear BK102
              clear HB
              clear h0_ h1_ h2_ h3_ h4_ h5_ h6_ h7_ h8_
              have HO151 := n0_
              have HO161 := n1_
              have HO171 := n2_
              have HO174 := n3_
              have HO_7 := n4_
              have HO_8 := n5_
              have BK101 := n6_
              have BK102 := n7_
              have HB := n8_
              clear n0_ n1_ n2_ n3_ n4_ n5_ n6_ n7_ n8_
              have hHeld : w103.cell? ⟨gb102, 0, none⟩ = some (.int .i32 a1_0) ∧ w103.cell? ⟨gb102, 1, none⟩ = some (.int .i32 a1_1) ∧ w103.cell? ⟨gb102, 2, none⟩ = some (.int .u16 a1_2) ∧ w103.cell? ⟨gb102, 3, none⟩ = some (.int .u16 a1_3) ∧ w103.cell? ⟨gb102, 4, none⟩ = some (.int .u16 a1_4) ∧ w103.cell? ⟨gb102, 5, none⟩ = some (.int .u16 a1_5) ∧ w103.cell? ⟨gb102, 6, none⟩ = some (.int .u8 a1_6) ∧ w103.cell? ⟨gb102, 7, none⟩ = some (.int .u8 a1_7) ∧ w103.cell? ⟨gb102, 8, none⟩ = some (.int .u8 a1_8) ∧ w103.cell? ⟨gb102, 9, none⟩ = some (.int .u8 a1_9) ∧ w103.cell? ⟨gb102, 10, none⟩ = some (.int .u8 a1_10) := hS_
              obtain ⟨Ao105, co105, eo105⟩ := Kd.R_slice HO174.out
              (first | subst eo105 | (injection eo105 with f1_ f2_ f3_; have f4_ := f1_.symm; have f5_ := f3_.symm; clear f1_ f2_ f3_; subst f4_; subst f5_))
              refine norm_ (a' := ?_) ?_ ?_
              rotate_left
              ·simp only [putAll, Act.put, List.setIfInBounds_toArray, List.set_cons_zero, List.set_cons_succ]
               rfl
              refine one_ (i := 12) (N := some 93) #[true, true, true, true, true, true, true, true, true, true, true, true, true, true, true, true, false, false] rfl rfl (one_of HT_.out (by kernel_rfl)) (by decide) (fun K hK => ?_)
              refine Kd.R_append_rows_step (Kd.int .i64) (w0 := w) w.heap.size (by rfl) (.tmp 85) (.tmp 92) 29 3 (.int .i64 0) 8 rfl Try.underlying29 info3 rfl (by decide) (by omega) v170 y169 y172 _ _ _ (fun k_ => some k_ ≠ (.slice Ao81 x7_1.length co81 : Value).ownBlock ∧ some k_ ≠ (.slice Ao96 x8_1.length co96 : Value).ownBlock ∧ some k_ ≠ (.slice Ao92 y149.length co92 : Value).ownBlock ∧ some k_ ≠ (v160 : Value).ownBlock ∧ some k_ ≠ (.slice Ao105 y172.length co105 : Value).ownBlock) (fun _ => False) rfl rfl ?aO ?aR (fun _ _ h => h) (fun _ h => h.elim) ?aF ?aB ?aS ?aL ?_
              (case aR => repeat (first | exact (Kd.R_reads' HO174.out).2.2 | (with_reducible refine Kd.C_alloc ?_ _) | (with_reducible refine Kd.C_drewN ?_ _) | (with_reducible refine Kd.C_drew ?_)))
              (case aB => exact (oB2 HB.out GE101.out GE102.out))
              (case aF => exact (fun k_ hk => ⟨Kd.fresh' (Kd.R_lt (oR HO_7.out)) k_ hk, Kd.fresh' (Kd.R_lt (oR HO_8.out)) k_ hk, Kd.fresh' (Kd.R_lt (oR HO151.out)) k_ hk, Kd.fresh' (Kd.R_lt (oR HO161.out)) k_ hk, Kd.fresh' (Kd.R_lt (oR HO174.out)) k_ hk⟩))
              (case aO => exact (by (with_reducible repeat (first | apply Kd.R_alloc | apply Kd.R_drewN | apply Kd.R_drew)); exact Kd.R_mono HO171.out (fun _ hk => ⟨hk.2.2.2.1, ⟨hk.2.2.2.2, ⟨hk.1, ⟨hk.2.1, hk.2.2.1⟩⟩⟩⟩)))
              (case aS => exact (below_size (oB2 HB.out GE101.out GE102.out)))
              (case aL => have := LMc73.out; omega)
              intro v176 w104 ho hb hg hat
              rw [← Ny175.out] at ho
              have n0_ := Aside0.mk (Kd.R_after (ok := (fun k_ => some k_ ≠ (.slice Ao96 x8_1.length co96 : Value).ownBlock ∧ some k_ ≠ (.slice Ao92 y149.length co92 : Value).ownBlock ∧ some k_ ≠ (v160 : Value).ownBlock ∧ some k_ ≠ (.slice Ao105 y172.length co105 : Value).ownBlock)) (by (with_reducible repeat (first | apply Kd.R_alloc | apply Kd.R_drewN | apply Kd.R_drew)); exact Kd.R_mono HO_7.out (fun _ hk => ⟨⟨hk.2.2.2.2, ⟨hk.1, ⟨hk.2.1, hk.2.2.2.1⟩⟩⟩, hk.2.2.1⟩)) hg hat)
              have n1_ := Aside0.mk (Kd.R_after (ok := (fun k_ => some k_ ≠ (.slice Ao81 x7_1.length co81 : Value).ownBlock ∧ some k_ ≠ (.slice Ao92 y149.length co92 : Value).ownBlock ∧ some k_ ≠ (v160 : Value).ownBlock ∧ some k_ ≠ (.slice Ao105 y172.length co105 : Value).ownBlock)) (by (with_reducible repeat (first | apply Kd.R_alloc | apply Kd.R_drewN | apply Kd.R_drew)); exact Kd.R_mono HO_8.out (fun _ hk => ⟨⟨hk.2.2.2.2, ⟨hk.1, ⟨hk.2.1, hk.2.2.2.1⟩⟩⟩, hk.2.2.1⟩)) hg hat)
              have n2_ := Aside0.mk (blk_grown (g := gb101) (o := O35 a0_0 a0_1 a0_2) (oK BK101.out) hg (Kd.R_ne HO171.out BK101.out (by decide)))
              have n3_ := Aside0.mk (blk_grown (g := gb102) (o := O47 a1_0 a1_1 a1_2 a1_3 a1_4 a1_5 a1_6 a1_7 a1_8 a1_9 a1_10) (oK BK102.out) hg (Kd.R_ne HO171.out BK102.out (by decide)))
              have n4_ := Aside0.mk (Kd.R_after (ok := (fun k_ => some k_ ≠ (.slice Ao81 x7_1.length co81 : Value).ownBlock ∧ some k_ ≠ (.slice Ao96 x8_1.length co96 : Value).ownBlock ∧ some k_ ≠ (v160 : Value).ownBlock ∧ some k_ ≠ (.slice Ao105 y172.length co105 : Value).ownBlock)) (by (with_reducible repeat (first | apply Kd.R_alloc | apply Kd.R_drewN | apply Kd.R_drew)); exact Kd.R_mono HO151.out (fun _ hk => ⟨⟨hk.2.2.2.1, ⟨hk.2.2.2.2, ⟨hk.1, hk.2.2.1⟩⟩⟩, hk.2.1⟩)) hg hat)
              have n5_ := Aside0.mk (Kd.R_after (ok := (fun k_ => some k_ ≠ (.slice Ao81 x7_1.length co81 : Value).ownBlock ∧ some k_ ≠ (.slice Ao96 x8_1.length co96 : Value).ownBlock ∧ some k_ ≠ (.slice Ao92 y149.length co92 : Value).ownBlock ∧ some k_ ≠ (.slice Ao105 y172.length co105 : Value).ownBlock)) (by (with_reducible repeat (first | apply Kd.R_alloc | apply Kd.R_drewN | apply Kd.R_drew)); exact Kd.R_mono HO161.out (fun _ hk => ⟨⟨hk.2.2.2.1, ⟨hk.2.2.2.2, ⟨hk.1, hk.2.2.1⟩⟩⟩, hk.2.1⟩)) hg hat)
              have n6_ := Aside0.mk (Kd.R_after (ok := (fun k_ => some k_ ≠ (.slice Ao81 x7_1.length co81 : Value).ownBlock ∧ some k_ ≠ (.slice Ao96 x8_1.length co96 : Value).ownBlock ∧ some k_ ≠ (.slice Ao92 y149.length co92 : Value).ownBlock ∧ some k_ ≠ (v160 : Value).ownBlock)) (by (with_reducible repeat (first | apply Kd.R_alloc | apply Kd.R_drewN | apply Kd.R_drew)); exact Kd.R_mono HO174.out (fun _ hk => ⟨⟨hk.2.2.2.1, ⟨hk.2.2.2.2, ⟨hk.1, hk.2.1⟩⟩⟩, hk.2.2.1⟩)) hg hat)
              have n7_ := Aside0.mk (hb)
              have n8_ := Aside0.mk (ho)
              clear HO_7
              clear HO_8
              clear BK101
              clear BK102
              clear HO151
              clear HO161
              clear HO174
              clear HB
              clear HO171
              have HO_7 := n0_
              have HO_8 := n1_
              have BK101 := n2_
              have BK102 := n3_
              have HO151 := n4_
              have HO161 := n5_
              have HO174 := n6_
              have HB := n7_
              have HO177 := n8_
              clear n0_ n1_ n2_ n3_ n4_ n5_ n6_ n7_ n8_
              clear ho hb hg hat
              refine hK.out _ _ ⟨(blk_cell BK102.out 0).trans rfl, (blk_cell BK102.out 1).trans rfl, (blk_cell BK102.out 2).trans rfl, (blk_cell BK102.out 3).trans rfl, (blk_cell BK102.out 4).trans rfl, (blk_cell BK102.out 5).trans rfl, (blk_cell BK102.out 6).trans rfl, (blk_cell BK102.out 7).trans rfl, (blk_cell BK102.out 8).trans rfl, (blk_cell BK102.out 9).trans rfl, (blk_cell BK102.out 10).trans rfl⟩ (fun hHeld => ?_)
              clear hK K
              refine norm_ (a' := ?_) ?_ ?_
              rotate_left
              ·show Act.put _ (some 93) _ = _
               simp only [putR, i64_w, i32_w]
               rfl
              refine one_ (i := 16) (N := some 97) #[true, true, true, true, true, true, true, true, true, true, true, true, true, true, true, true, true, false] rfl rfl (one_of HT_.out (by kernel_rfl)) (by decide) (fun K hK => ?_)
              refine Kd.R_append_rows_step (Kd.int .i64) (w0 := w) w.heap.size (by rfl) (.tmp 93) (.tmp 96) 29 3 (.int .i64 0) 8 rfl Try.underlying29 info3 rfl (by decide) (by omega) v176 y175 y178 _ _ _ (fun k_ => some k_ ≠ (.slice Ao81 x7_1.length co81 : Value).ownBlock ∧ some k_ ≠ (.slice Ao96 x8_1.length co96 : Value).ownBlock ∧ some k_ ≠ (.slice Ao92 y149.length co92 : Value).ownBlock ∧ some k_ ≠ (v160 : Value).ownBlock ∧ some k_ ≠ (.slice Ao105 y172.length co105 : Value).ownBlock) (fun _ => False) rfl rfl ?aO ?aR (fun _ _ h => h) (fun _ h => h.elim) ?aF ?aB ?aS ?aL ?_
              (case aR => exact (show Kd.C (Kd.int .i64) _ A97 y178.length y178 from by rw [Ny178.out, KA97.out]; exact Kd.C_drop (m := ((ji62) : Int).toNat) (c := co96) ((Kd.R_reads' HO_8.out).2.2) KL97.out ((Kd.R_reads' HO_8.out).2.1)))
              (case aB => exact (oB2 HB.out GE101.out GE102.out))
              (case aF => exact (fun k_ hk => ⟨Kd.fresh' (Kd.R_lt (oR HO_7.out)) k_ hk, Kd.fresh' (Kd.R_lt (oR HO_8.out)) k_ hk, Kd.fresh' (Kd.R_lt (oR HO151.out)) k_ hk, Kd.fresh' (Kd.R_lt (oR HO161.out)) k_ hk, Kd.fresh' (Kd.R_lt (oR HO174.out)) k_ hk⟩))
              (case aO => exact (oR HO177.out))
              (case aS => exact (below_size (oB2 HB.out GE101.out GE102.out)))
              (case aL => have := LMc76.out; omega)
              intro v183 w106 ho hb hg hat
              rw [← Ny182.out] at ho
              have n0_ := Aside0.mk (Kd.R_after (ok := (fun k_ => some k_ ≠ (.slice Ao96 x8_1.length co96 : Value).ownBlock ∧ some k_ ≠ (.slice Ao92 y149.length co92 : Value).ownBlock ∧ some k_ ≠ (v160 : Value).ownBlock ∧ some k_ ≠ (.slice Ao105 y172.length co105 : Value).ownBlock)) (oR HO_7.out) hg hat)
              have n1_ := Aside0.mk (Kd.R_after (ok := (fun k_ => some k_ ≠ (.slice Ao81 x7_1.length co81 : Value).ownBlock ∧ some k_ ≠ (.slice Ao92 y149.length co92 : Value).ownBlock ∧ some k_ ≠ (v160 : Value).ownBlock ∧ some k_ ≠ (.slice Ao105 y172.length co105 : Value).ownBlock)) (oR HO_8.out) hg hat)
              have n2_ := Aside0.mk (blk_grown (g := gb101) (o := O35 a0_0 a0_1 a0_2) (oK BK101.out) hg (Kd.R_ne HO177.out BK101.out (by decide)))
              have n3_ := Aside0.mk (blk_grown (g := gb102) (o := O47 a1_0 a1_1 a1_2 a1_3 a1_4 a1_5 a1_6 a1_7 a1_8 a1_9 a1_10) (oK BK102.out) hg (Kd.R_ne HO177.out BK102.out (by decide)))
              have n4_ := Aside0.mk (Kd.R_after (ok := (fun k_ => some k_ ≠ (.slice Ao81 x7_1.length co81 : Value).ownBlock ∧ some k_ ≠ (.slice Ao96 x8_1.length co96 : Value).ownBlock ∧ some k_ ≠ (v160 : Value).ownBlock ∧ some k_ ≠ (.slice Ao105 y172.length co105 : Value).ownBlock)) (oR HO151.out) hg hat)
              have n5_ := Aside0.mk (Kd.R_after (ok := (fun k_ => some k_ ≠ (.slice Ao81 x7_1.length co81 : Value).ownBlock ∧ some k_ ≠ (.slice Ao96 x8_1.length co96 : Value).ownBlock ∧ some k_ ≠ (.slice Ao92 y149.length co92 : Value).ownBlock ∧ some k_ ≠ (.slice Ao105 y172.length co105 : Value).ownBlock)) (oR HO161.out) hg hat)
              have n6_ := Aside0.mk (Kd.R_after (ok := (fun k_ => some k_ ≠ (.slice Ao81 x7_1.length co81 : Value).ownBlock ∧ some k_ ≠ (.slice Ao96 x8_1.length co96 : Value).ownBlock ∧ some k_ ≠ (.slice Ao92 y149.length co92 : Value).ownBlock ∧ some k_ ≠ (v160 : Value).ownBlock)) (oR HO174.out) hg hat)
              have n7_ := Aside0.mk (hb)
              have n8_ := Aside0.mk (ho)
              clear HO_7
              clear HO_8
              clear BK101
              clear BK102
              clear HO151
              clear HO161
              clear HO174
              clear HB
              clear HO177
              have HO_7 := n0_
              have HO_8 := n1_
              have BK101 := n2_
              have BK102 := n3_
              have HO151 := n4_
              have HO161 := n5_
              have HO174 := n6_
              have HB := n7_
              have HO184 := n8_
              clear n0_ n1_ n2_ n3_ n4_ n5_ n6_ n7_ n8_
              clear ho hb hg hat
              refine hK.out _ _ ⟨(blk_cell BK102.out 0).trans rfl, (blk_cell BK102.out 1).trans rfl, (blk_cell BK102.out 2).trans rfl, (blk_cell BK102.out 3).trans rfl, (blk_cell BK102.out 4).trans rfl, (blk_cell BK102.out 5).trans rfl, (blk_cell BK102.out 6).trans rfl, (blk_cell BK102.out 7).trans rfl, (blk_cell BK102.out 8).trans rfl, (blk_cell BK102.out 9).trans rfl, (blk_cell BK102.out 10).trans rfl⟩ (fun hHeld => ?_)
              clear hK K
              refine norm_ (a' := ?_) ?_ ?_
              rotate_left
              ·show Act.put _ (some 97) _ = _
               simp only [putR, i64_w, i32_w]
               rfl
              refine pure_ (i := 17) (N := some 13) (v := ?_) (a' := ?_) #[true, true, true, true, true, true, true, true, true, true, true, true, true, true, true, true, true, true] rfl rfl (any_of HT_.out (by kernel_rfl)) (fun _ _ _ h => h) (Or.inl ⟨by rfl, ?_⟩) ?_ ?_
              rotate_left
              ·intro w'
               go_simp
               with_reducible rfl
              rotate_left
              ·simp only [putR, i64_w, i32_w]
               rfl
              refine done_ (done_of HT_.out (by kernel_rfl)) ?_
              have hcz107_0 : w106.cell? ⟨gb101, 0, none⟩ = some (.int .i64 a0_0) := (blk_cell BK101.out 0).trans rfl
              have hcz107_1 : w106.cell? ⟨gb101, 1, none⟩ = some (.int .i64 a0_1) := (blk_cell BK101.out 1).trans rfl
              have hcz107_2 : w106.cell? ⟨gb101, 2, none⟩ = some (.int .i64 a0_2) := (blk_cell BK101.out 2).trans rfl
              obtain ⟨Ao108, co108, eo108⟩ := Kd.R_slice HO161.out
              subst eo108
              obtain ⟨Ao109, co109, eo109⟩ := Kd.R_slice HO184.out
              subst eo109
              go_upto_region 15 with (first | ((with_reducible refine gate_callee (f := 19) rfl ?_); refine goesL_ (some 102) rfl rfl Try.func19 (by kernel_rfl) rfl #[.agg #[.int .i64 a0_0, .int .i64 a0_1, .int .i64 a0_2], .slice Ao108 y159.length co108, .slice Ao109 y182.length co109] rfl (by (try simp only [List.map_toArray, List.map_cons, List.map_nil]); first | done | rfl | (simp only [List.length_drop, List.length_take]; rfl)) ?_; (with_reducible refine (vote_Vote.calls a0_0 a0_1 a0_2 _ _ y159 _ _ y182 t185 t186 _ ?side1 ?side2 ?side3 ?side4 A77.out).mono ?_); (case side1 => repeat (first | exact (Kd.R_reads' HO161.out).2.2 | (with_reducible refine Kd.C_alloc ?_ _) | (with_reducible refine Kd.C_drewN ?_ _) | (with_reducible refine Kd.C_drew ?_))); (case side2 => exact (Kd.R_reads' HO161.out).2.1); (case side3 => repeat (first | exact (Kd.R_reads' HO184.out).2.2 | (with_reducible refine Kd.C_alloc ?_ _) | (with_reducible refine Kd.C_drewN ?_ _) | (with_reducible refine Kd.C_drew ?_))); (case side4 => exact (Kd.R_reads' HO184.out).2.1); rintro e w110 ⟨rfl, hb⟩; refine ⟨_, rfl, ?_⟩; have n0_ := Aside0.mk (Kd.R_below (oR HO_7.out) hb); have n1_ := Aside0.mk (Kd.R_below (oR HO_8.out) hb); have n2_ := Aside0.mk (Kd.R_below (oR HO151.out) hb); have n3_ := Aside0.mk (Kd.R_below (oR HO161.out) hb); have n4_ := Aside0.mk (Kd.R_below (oR HO174.out) hb); have n5_ := Aside0.mk (Kd.R_below (oR HO184.out) hb); have n6_ := Aside0.mk (blk_below (g := gb101) (o := O35 a0_0 a0_1 a0_2) (oK BK101.out) hb); have n7_ := Aside0.mk (blk_below (g := gb102) (o := O47 a1_0 a1_1 a1_2 a1_3 a1_4 a1_5 a1_6 a1_7 a1_8 a1_9 a1_10) (oK BK102.out) hb); have n8_ := Aside0.mk (below_step (oB2 HB.out GE101.out GE102.out) hb); clear HO_7; clear HO_8; clear HO151; clear HO161; clear HO174; clear HO184; clear BK101; clear BK102; clear HB; have HO_7 := n0_; have HO_8 := n1_; have HO151 := n2_; have HO161 := n3_; have HO174 := n4_; have HO184 := n5_; have BK101 := n6_; have BK102 := n7_; have HB := n8_; clear n0_ n1_ n2_ n3_ n4_ n5_ n6_ n7_ n8_; (try clear hb); (try clear hb2); (try clear hk); (try clear hi)))
              (try simp only [Act.put, List.setIfInBounds_toArray, List.set_cons_zero, List.set_cons_succ])
              go_cut [16] (fun v16 wc => ∃ (kq : Nat) (x16_77 : Bool), v16 = .bool x16_77 ∧ Aside0 (rudderlaw12_VoteBounded.j1 kq (wrap64 (a1_0)) (wrap64 ((wrap64 (a1_0)) + (wrap64 (a1_2)))) t185 t186 x16_77 a0_0 a0_1 a0_2 = some r) ∧ Aside0 (kq ≤ k1) ∧ Aside0 (wc.heap[gb101]? = some (.cells #[.int .i64 a0_0, .int .i64 a0_1, .int .i64 a0_2] 35 (0, 0))) ∧ Aside0 (wc.heap[gb102]? = some (.cells #[.int .i32 a1_0, .int .i32 a1_1, .int .u16 a1_2, .int .u16 a1_3, .int .u16 a1_4, .int .u16 a1_5, .int .u8 a1_6, .int .u8 a1_7, .int .u8 a1_8, .int .u8 a1_9, .int .u8 a1_10] 47 (0, 0))) ∧ Aside0 (Below w.heap.size w wc))
              case first => as_aux_lemma =>
               have H := HC78.out
               clear HC78
               replace H := Option.bind_eq_some_iff.mp H
               obtain ⟨t187, A1110, H⟩ := H
               replace H : (if t187 = true then (if (wrap64 (a1_0)) ≥ a0_0 then (if (wrap64 (a1_0)) ≤ a0_1 then (rudderlaw12_VoteBounded.j1 k1 (wrap64 (a1_0)) (wrap64 ((wrap64 (a1_0)) + (wrap64 (a1_2)))) t185 t186 true a0_0 a0_1 a0_2) else (if (wrap64 ((wrap64 (a1_0)) + (wrap64 (a1_2)))) ≥ a0_0 then (rudderlaw12_VoteBounded.j1 k1 (wrap64 (a1_0)) (wrap64 ((wrap64 (a1_0)) + (wrap64 (a1_2)))) t185 t186 (decide ((wrap64 ((wrap64 (a1_0)) + (wrap64 (a1_2)))) ≤ a0_1)) a0_0 a0_1 a0_2) else (rudderlaw12_VoteBounded.j1 k1 (wrap64 (a1_0)) (wrap64 ((wrap64 (a1_0)) + (wrap64 (a1_2)))) t185 t186 false a0_0 a0_1 a0_2))) else (if (wrap64 ((wrap64 (a1_0)) + (wrap64 (a1_2)))) ≥ a0_0 then (rudderlaw12_VoteBounded.j1 k1 (wrap64 (a1_0)) (wrap64 ((wrap64 (a1_0)) + (wrap64 (a1_2)))) t185 t186 (decide ((wrap64 ((wrap64 (a1_0)) + (wrap64 (a1_2)))) ≤ a0_1)) a0_0 a0_1 a0_2) else (rudderlaw12_VoteBounded.j1 k1 (wrap64 (a1_0)) (wrap64 ((wrap64 (a1_0)) + (wrap64 (a1_2)))) t185 t186 false a0_0 a0_1 a0_2))) else (rudderlaw12_VoteBounded.j1 k1 (wrap64 (a1_0)) (wrap64 ((wrap64 (a1_0)) + (wrap64 (a1_2)))) t185 t186 false a0_0 a0_1 a0_2)) = some r := H
               have A111 := Aside0.mk A1110
               clear A1110
               by_cases c112 : t187 = true
               ·subst c112
                have H1 : (if (wrap64 (a1_0)) ≥ a0_0 then (if (wrap64 (a1_0)) ≤ a0_1 then (rudderlaw12_VoteBounded.j1 k1 (wrap64 (a1_0)) (wrap64 ((wrap64 (a1_0)) + (wrap64 (a1_2)))) t185 t186 true a0_0 a0_1 a0_2) else (if (wrap64 ((wrap64 (a1_0)) + (wrap64 (a1_2)))) ≥ a0_0 then (rudderlaw12_VoteBounded.j1 k1 (wrap64 (a1_0)) (wrap64 ((wrap64 (a1_0)) + (wrap64 (a1_2)))) t185 t186 (decide ((wrap64 ((wrap64 (a1_0)) + (wrap64 (a1_2)))) ≤ a0_1)) a0_0 a0_1 a0_2) else (rudderlaw12_VoteBounded.j1 k1 (wrap64 (a1_0)) (wrap64 ((wrap64 (a1_0)) + (wrap64 (a1_2)))) t185 t186 false a0_0 a0_1 a0_2))) else (if (wrap64 ((wrap64 (a1_0)) + (wrap64 (a1_2)))) ≥ a0_0 then (rudderlaw12_VoteBounded.j1 k1 (wrap64 (a1_0)) (wrap64 ((wrap64 (a1_0)) + (wrap64 (a1_2)))) t185 t186 (decide ((wrap64 ((wrap64 (a1_0)) + (wrap64 (a1_2)))) ≤ a0_1)) a0_0 a0_1 a0_2) else (rudderlaw12_VoteBounded.j1 k1 (wrap64 (a1_0)) (wrap64 ((wrap64 (a1_0)) + (wrap64 (a1_2)))) t185 t186 false a0_0 a0_1 a0_2))) = some r := by rw [if_pos rfl] at H; exact H
                clear H
                have H := H1
                clear H1
                by_cases c113 : (wrap64 (a1_0)) ≥ a0_0
                ·rw [if_pos c113] at H
                 have c113b0 : decide (a0_0 ≤ (wrap64 (a1_0))) = true := decide_eq_true c113
                 clear c113
                 (first | rw [c113b0] | (simp only [i64_w, i32_w]; rw [c113b0]) | skip)
                 by_cases c114 : (wrap64 (a1_0)) ≤ a0_1
                 ·rw [if_pos c114] at H
                  have c114b0 : decide ((wrap64 (a1_0)) ≤ a0_1) = true := decide_eq_true c114
                  clear c114
                  as_aux_lemma =>
                   have H' := Aside0.mk H
                   clear H
                   have hnb115 := NB101_102.out
                   have hnc115 := NB102_101.out
                   have hcz116_0 : w110.cell? ⟨gb101, 0, none⟩ = some (.int .i64 a0_0) := (blk_cell BK101.out 0).trans rfl
                   have hcz116_1 : w110.cell? ⟨gb101, 1, none⟩ = some (.int .i64 a0_1) := (blk_cell BK101.out 1).trans rfl
                   have hcz116_2 : w110.cell? ⟨gb101, 2, none⟩ = some (.int .i64 a0_2) := (blk_cell BK101.out 2).trans rfl
                   go_wp2_with (first | ((with_reducible refine gate_callee (f := 22) rfl ?_); refine goesL_ (some 106) rfl rfl Try.func22 (by kernel_rfl) rfl #[.agg #[.int .i64 a0_0, .int .i64 a0_1, .int .i64 a0_2]] rfl (by (try simp only [List.map_toArray, List.map_cons, List.map_nil]); first | done | rfl | (simp only [List.length_drop, List.length_take]; rfl)) ?_; (with_reducible refine (vote_Right.calls a0_0 a0_1 a0_2 true _ A111.out).mono ?_); rintro e w117 ⟨rfl, hb⟩; refine ⟨_, rfl, ?_⟩; have n0_ := Aside0.mk (Kd.R_below (oR HO_7.out) hb); have n1_ := Aside0.mk (Kd.R_below (oR HO_8.out) hb); have n2_ := Aside0.mk (Kd.R_below (oR HO151.out) hb); have n3_ := Aside0.mk (Kd.R_below (oR HO161.out) hb); have n4_ := Aside0.mk (Kd.R_below (oR HO174.out) hb); have n5_ := Aside0.mk (Kd.R_below (oR HO184.out) hb); have n6_ := Aside0.mk (blk_below (g := gb101) (o := O35 a0_0 a0_1 a0_2) (oK BK101.out) hb); have n7_ := Aside0.mk (blk_below (g := gb102) (o := O47 a1_0 a1_1 a1_2 a1_3 a1_4 a1_5 a1_6 a1_7 a1_8 a1_9 a1_10) (oK BK102.out) hb); have n8_ := Aside0.mk (below_step (oB2 HB.out GE101.out GE102.out) hb); clear HO_7; clear HO_8; clear HO151; clear HO161; clear HO174; clear HO184; clear BK101; clear BK102; clear HB; have HO_7 := n0_; have HO_8 := n1_; have HO151 := n2_; have HO161 := n3_; have HO174 := n4_; have HO184 := n5_; have BK101 := n6_; have BK102 := n7_; have HB := n8_; clear n0_ n1_ n2_ n3_ n4_ n5_ n6_ n7_ n8_; (try clear hb); (try clear hb2); (try clear hk); (try clear hi); have hcz118_0 : w117.cell? ⟨gb101, 0, none⟩ = some (.int .i64 a0_0) := (blk_cell BK101.out 0).trans rfl; have hcz118_1 : w117.cell? ⟨gb101, 1, none⟩ = some (.int .i64 a0_1) := (blk_cell BK101.out 1).trans rfl; have hcz118_2 : w117.cell? ⟨gb101, 2, none⟩ = some (.int .i64 a0_2) := (blk_cell BK101.out 2).trans rfl; have hfz118_2 := blk_frozen BK101.out 2))
                   go_meet
                   case rel => exact ⟨_, (true), (by first | rfl | (simp; done) | (simp [*]; done)), H', ⟨by have := HK1.out; first | omega | exact Nat.le_refl _⟩, ⟨oK BK101.out⟩, ⟨oK BK102.out⟩, ⟨oB2 HB.out GE101.out GE102.out⟩⟩
                 ·rw [if_neg c114] at H
                  have c114b0 : decide ((wrap64 (a1_0)) ≤ a0_1) = false := decide_eq_false c114
                  clear c114
                  by_cases c119 : (wrap64 ((wrap64 (a1_0)) + (wrap64 (a1_2)))) ≥ a0_0
                  ·rw [if_pos c119] at H
                   have c119b0 : decide (a0_0 ≤ (wrap64 ((wrap64 (a1_0)) + (wrap64 (a1_2))))) = true := decide_eq_true c119
                   clear c119
                   as_aux_lemma =>
                    have H' := Aside0.mk H
                    clear H
                    have hnb120 := NB101_102.out
                    have hnc120 := NB102_101.out
                    have hcz121_0 : w110.cell? ⟨gb101, 0, none⟩ = some (.int .i64 a0_0) := (blk_cell BK101.out 0).trans rfl
                    have hcz121_1 : w110.cell? ⟨gb101, 1, none⟩ = some (.int .i64 a0_1) := (blk_cell BK101.out 1).trans rfl
                    have hcz121_2 : w110.cell? ⟨gb101, 2, none⟩ = some (.int .i64 a0_2) := (blk_cell BK101.out 2).trans rfl
                    go_wp2_with (first | ((with_reducible refine gate_callee (f := 22) rfl ?_); refine goesL_ (some 106) rfl rfl Try.func22 (by kernel_rfl) rfl #[.agg #[.int .i64 a0_0, .int .i64 a0_1, .int .i64 a0_2]] rfl (by (try simp only [List.map_toArray, List.map_cons, List.map_nil]); first | done | rfl | (simp only [List.length_drop, List.length_take]; rfl)) ?_; (with_reducible refine (vote_Right.calls a0_0 a0_1 a0_2 true _ A111.out).mono ?_); rintro e w122 ⟨rfl, hb⟩; refine ⟨_, rfl, ?_⟩; have n0_ := Aside0.mk (Kd.R_below (oR HO_7.out) hb); have n1_ := Aside0.mk (Kd.R_below (oR HO_8.out) hb); have n2_ := Aside0.mk (Kd.R_below (oR HO151.out) hb); have n3_ := Aside0.mk (Kd.R_below (oR HO161.out) hb); have n4_ := Aside0.mk (Kd.R_below (oR HO174.out) hb); have n5_ := Aside0.mk (Kd.R_below (oR HO184.out) hb); have n6_ := Aside0.mk (blk_below (g := gb101) (o := O35 a0_0 a0_1 a0_2) (oK BK101.out) hb); have n7_ := Aside0.mk (blk_below (g := gb102) (o := O47 a1_0 a1_1 a1_2 a1_3 a1_4 a1_5 a1_6 a1_7 a1_8 a1_9 a1_10) (oK BK102.out) hb); have n8_ := Aside0.mk (below_step (oB2 HB.out GE101.out GE102.out) hb); clear HO_7; clear HO_8; clear HO151; clear HO161; clear HO174; clear HO184; clear BK101; clear BK102; clear HB; have HO_7 := n0_; have HO_8 := n1_; have HO151 := n2_; have HO161 := n3_; have HO174 := n4_; have HO184 := n5_; have BK101 := n6_; have BK102 := n7_; have HB := n8_; clear n0_ n1_ n2_ n3_ n4_ n5_ n6_ n7_ n8_; (try clear hb); (try clear hb2); (try clear hk); (try clear hi); have hcz123_0 : w122.cell? ⟨gb101, 0, none⟩ = some (.int .i64 a0_0) := (blk_cell BK101.out 0).trans rfl; have hcz123_1 : w122.cell? ⟨gb101, 1, none⟩ = some (.int .i64 a0_1) := (blk_cell BK101.out 1).trans rfl; have hcz123_2 : w122.cell? ⟨gb101, 2, none⟩ = some (.int .i64 a0_2) := (blk_cell BK101.out 2).trans rfl; have hfz123_2 := blk_frozen BK101.out 2))
                    go_meet
                    case rel => exact ⟨_, (decide ((wrap64 ((wrap64 (a1_0)) + (wrap64 (a1_2)))) ≤ a0_1)), (by first | rfl | (simp; done) | (simp [*]; done)), H', ⟨by have := HK1.out; first | omega | exact Nat.le_refl _⟩, ⟨oK BK101.out⟩, ⟨oK BK102.out⟩, ⟨oB2 HB.out GE101.out GE102.out⟩⟩
                  ·rw [if_neg c119] at H
                   have c119b0 : decide (a0_0 ≤ (wrap64 ((wrap64 (a1_0)) + (wrap64 (a1_2))))) = false := decide_eq_false c119
                   clear c119
                   as_aux_lemma =>
                    have H' := Aside0.mk H
                    clear H
                    have hnb124 := NB101_102.out
                    have hnc124 := NB102_101.out
                    have hcz125_0 : w110.cell? ⟨gb101, 0, none⟩ = some (.int .i64 a0_0) := (blk_cell BK101.out 0).trans rfl
                    have hcz125_1 : w110.cell? ⟨gb101, 1, none⟩ = some (.int .i64 a0_1) := (blk_cell BK101.out 1).trans rfl
                    have hcz125_2 : w110.cell? ⟨gb101, 2, none⟩ = some (.int .i64 a0_2) := (blk_cell BK101.out 2).trans rfl
                    go_wp2_with (first | ((with_reducible refine gate_callee (f := 22) rfl ?_); refine goesL_ (some 106) rfl rfl Try.func22 (by kernel_rfl) rfl #[.agg #[.int .i64 a0_0, .int .i64 a0_1, .int .i64 a0_2]] rfl (by (try simp only [List.map_toArray, List.map_cons, List.map_nil]); first | done | rfl | (simp only [List.length_drop, List.length_take]; rfl)) ?_; (with_reducible refine (vote_Right.calls a0_0 a0_1 a0_2 true _ A111.out).mono ?_); rintro e w126 ⟨rfl, hb⟩; refine ⟨_, rfl, ?_⟩; have n0_ := Aside0.mk (Kd.R_below (oR HO_7.out) hb); have n1_ := Aside0.mk (Kd.R_below (oR HO_8.out) hb); have n2_ := Aside0.mk (Kd.R_below (oR HO151.out) hb); have n3_ := Aside0.mk (Kd.R_below (oR HO161.out) hb); have n4_ := Aside0.mk (Kd.R_below (oR HO174.out) hb); have n5_ := Aside0.mk (Kd.R_below (oR HO184.out) hb); have n6_ := Aside0.mk (blk_below (g := gb101) (o := O35 a0_0 a0_1 a0_2) (oK BK101.out) hb); have n7_ := Aside0.mk (blk_below (g := gb102) (o := O47 a1_0 a1_1 a1_2 a1_3 a1_4 a1_5 a1_6 a1_7 a1_8 a1_9 a1_10) (oK BK102.out) hb); have n8_ := Aside0.mk (below_step (oB2 HB.out GE101.out GE102.out) hb); clear HO_7; clear HO_8; clear HO151; clear HO161; clear HO174; clear HO184; clear BK101; clear BK102; clear HB; have HO_7 := n0_; have HO_8 := n1_; have HO151 := n2_; have HO161 := n3_; have HO174 := n4_; have HO184 := n5_; have BK101 := n6_; have BK102 := n7_; have HB := n8_; clear n0_ n1_ n2_ n3_ n4_ n5_ n6_ n7_ n8_; (try clear hb); (try clear hb2); (try clear hk); (try clear hi); have hcz127_0 : w126.cell? ⟨gb101, 0, none⟩ = some (.int .i64 a0_0) := (blk_cell BK101.out 0).trans rfl; have hcz127_1 : w126.cell? ⟨gb101, 1, none⟩ = some (.int .i64 a0_1) := (blk_cell BK101.out 1).trans rfl; have hcz127_2 : w126.cell? ⟨gb101, 2, none⟩ = some (.int .i64 a0_2) := (blk_cell BK101.out 2).trans rfl; have hfz127_2 := blk_frozen BK101.out 2))
                    go_meet
                    case rel => exact ⟨_, (false), (by first | rfl | (simp; done) | (simp [*]; done)), H', ⟨by have := HK1.out; first | omega | exact Nat.le_refl _⟩, ⟨oK BK101.out⟩, ⟨oK BK102.out⟩, ⟨oB2 HB.out GE101.out GE102.out⟩⟩
                ·rw [if_neg c113] at H
                 have c113b0 : decide (a0_0 ≤ (wrap64 (a1_0))) = false := decide_eq_false c113
                 clear c113
                 (first | rw [c113b0] | (simp only [i64_w, i32_w]; rw [c113b0]) | skip)
                 by_cases c128 : (wrap64 ((wrap64 (a1_0)) + (wrap64 (a1_2)))) ≥ a0_0
                 ·rw [if_pos c128] at H
                  have c128b0 : decide (a0_0 ≤ (wrap64 ((wrap64 (a1_0)) + (wrap64 (a1_2))))) = true := decide_eq_true c128
                  clear c128
                  as_aux_lemma =>
                   have H' := Aside0.mk H
                   clear H
                   have hnb129 := NB101_102.out
                   have hnc129 := NB102_101.out
                   have hcz130_0 : w110.cell? ⟨gb101, 0, none⟩ = some (.int .i64 a0_0) := (blk_cell BK101.out 0).trans rfl
                   have hcz130_1 : w110.cell? ⟨gb101, 1, none⟩ = some (.int .i64 a0_1) := (blk_cell BK101.out 1).trans rfl
                   have hcz130_2 : w110.cell? ⟨gb101, 2, none⟩ = some (.int .i64 a0_2) := (blk_cell BK101.out 2).trans rfl
                   go_wp2_with (first | ((with_reducible refine gate_callee (f := 22) rfl ?_); refine goesL_ (some 106) rfl rfl Try.func22 (by kernel_rfl) rfl #[.agg #[.int .i64 a0_0, .int .i64 a0_1, .int .i64 a0_2]] rfl (by (try simp only [List.map_toArray, List.map_cons, List.map_nil]); first | done | rfl | (simp only [List.length_drop, List.length_take]; rfl)) ?_; (with_reducible refine (vote_Right.calls a0_0 a0_1 a0_2 true _ A111.out).mono ?_); rintro e w131 ⟨rfl, hb⟩; refine ⟨_, rfl, ?_⟩; have n0_ := Aside0.mk (Kd.R_below (oR HO_7.out) hb); have n1_ := Aside0.mk (Kd.R_below (oR HO_8.out) hb); have n2_ := Aside0.mk (Kd.R_below (oR HO151.out) hb); have n3_ := Aside0.mk (Kd.R_below (oR HO161.out) hb); have n4_ := Aside0.mk (Kd.R_below (oR HO174.out) hb); have n5_ := Aside0.mk (Kd.R_below (oR HO184.out) hb); have n6_ := Aside0.mk (blk_below (g := gb101) (o := O35 a0_0 a0_1 a0_2) (oK BK101.out) hb); have n7_ := Aside0.mk (blk_below (g := gb102) (o := O47 a1_0 a1_1 a1_2 a1_3 a1_4 a1_5 a1_6 a1_7 a1_8 a1_9 a1_10) (oK BK102.out) hb); have n8_ := Aside0.mk (below_step (oB2 HB.out GE101.out GE102.out) hb); clear HO_7; clear HO_8; clear HO151; clear HO161; clear HO174; clear HO184; clear BK101; clear BK102; clear HB; have HO_7 := n0_; have HO_8 := n1_; have HO151 := n2_; have HO161 := n3_; have HO174 := n4_; have HO184 := n5_; have BK101 := n6_; have BK102 := n7_; have HB := n8_; clear n0_ n1_ n2_ n3_ n4_ n5_ n6_ n7_ n8_; (try clear hb); (try clear hb2); (try clear hk); (try clear hi); have hcz132_0 : w131.cell? ⟨gb101, 0, none⟩ = some (.int .i64 a0_0) := (blk_cell BK101.out 0).trans rfl; have hcz132_1 : w131.cell? ⟨gb101, 1, none⟩ = some (.int .i64 a0_1) := (blk_cell BK101.out 1).trans rfl; have hcz132_2 : w131.cell? ⟨gb101, 2, none⟩ = some (.int .i64 a0_2) := (blk_cell BK101.out 2).trans rfl; have hfz132_2 := blk_frozen BK101.out 2))
                   go_meet
                   case rel => exact ⟨_, (decide ((wrap64 ((wrap64 (a1_0)) + (wrap64 (a1_2)))) ≤ a0_1)), (by first | rfl | (simp; done) | (simp [*]; done)), H', ⟨by have := HK1.out; first | omega | exact Nat.le_refl _⟩, ⟨oK BK101.out⟩, ⟨oK BK102.out⟩, ⟨oB2 HB.out GE101.out GE102.out⟩⟩
                 ·rw [if_neg c128] at H
                  have c128b0 : decide (a0_0 ≤ (wrap64 ((wrap64 (a1_0)) + (wrap64 (a1_2))))) = false := decide_eq_false c128
                  clear c128
                  as_aux_lemma =>
                   have H' := Aside0.mk H
                   clear H
                   have hnb133 := NB101_102.out
                   have hnc133 := NB102_101.out
                   have hcz134_0 : w110.cell? ⟨gb101, 0, none⟩ = some (.int .i64 a0_0) := (blk_cell BK101.out 0).trans rfl
                   have hcz134_1 : w110.cell? ⟨gb101, 1, none⟩ = some (.int .i64 a0_1) := (blk_cell BK101.out 1).trans rfl
                   have hcz134_2 : w110.cell? ⟨gb101, 2, none⟩ = some (.int .i64 a0_2) := (blk_cell BK101.out 2).trans rfl
                   go_wp2_with (first | ((with_reducible refine gate_callee (f := 22) rfl ?_); refine goesL_ (some 106) rfl rfl Try.func22 (by kernel_rfl) rfl #[.agg #[.int .i64 a0_0, .int .i64 a0_1, .int .i64 a0_2]] rfl (by (try simp only [List.map_toArray, List.map_cons, List.map_nil]); first | done | rfl | (simp only [List.length_drop, List.length_take]; rfl)) ?_; (with_reducible refine (vote_Right.calls a0_0 a0_1 a0_2 true _ A111.out).mono ?_); rintro e w135 ⟨rfl, hb⟩; refine ⟨_, rfl, ?_⟩; have n0_ := Aside0.mk (Kd.R_below (oR HO_7.out) hb); have n1_ := Aside0.mk (Kd.R_below (oR HO_8.out) hb); have n2_ := Aside0.mk (Kd.R_below (oR HO151.out) hb); have n3_ := Aside0.mk (Kd.R_below (oR HO161.out) hb); have n4_ := Aside0.mk (Kd.R_below (oR HO174.out) hb); have n5_ := Aside0.mk (Kd.R_below (oR HO184.out) hb); have n6_ := Aside0.mk (blk_below (g := gb101) (o := O35 a0_0 a0_1 a0_2) (oK BK101.out) hb); have n7_ := Aside0.mk (blk_below (g := gb102) (o := O47 a1_0 a1_1 a1_2 a1_3 a1_4 a1_5 a1_6 a1_7 a1_8 a1_9 a1_10) (oK BK102.out) hb); have n8_ := Aside0.mk (below_step (oB2 HB.out GE101.out GE102.out) hb); clear HO_7; clear HO_8; clear HO151; clear HO161; clear HO174; clear HO184; clear BK101; clear BK102; clear HB; have HO_7 := n0_; have HO_8 := n1_; have HO151 := n2_; have HO161 := n3_; have HO174 := n4_; have HO184 := n5_; have BK101 := n6_; have BK102 := n7_; have HB := n8_; clear n0_ n1_ n2_ n3_ n4_ n5_ n6_ n7_ n8_; (try clear hb); (try clear hb2); (try clear hk); (try clear hi); have hcz136_0 : w135.cell? ⟨gb101, 0, none⟩ = some (.int .i64 a0_0) := (blk_cell BK101.out 0).trans rfl; have hcz136_1 : w135.cell? ⟨gb101, 1, none⟩ = some (.int .i64 a0_1) := (blk_cell BK101.out 1).trans rfl; have hcz136_2 : w135.cell? ⟨gb101, 2, none⟩ = some (.int .i64 a0_2) := (blk_cell BK101.out 2).trans rfl; have hfz136_2 := blk_frozen BK101.out 2))
                   go_meet
                   case rel => exact ⟨_, (false), (by first | rfl | (simp; done) | (simp [*]; done)), H', ⟨by have := HK1.out; first | omega | exact Nat.le_refl _⟩, ⟨oK BK101.out⟩, ⟨oK BK102.out⟩, ⟨oB2 HB.out GE101.out GE102.out⟩⟩
               ·replace c112 := Bool.eq_false_iff.mpr c112
                subst c112
                have H1 : (rudderlaw12_VoteBounded.j1 k1 (wrap64 (a1_0)) (wrap64 ((wrap64 (a1_0)) + (wrap64 (a1_2)))) t185 t186 false a0_0 a0_1 a0_2) = some r := by rw [if_neg (show ¬ (false = true) by decide)] at H; exact H
                clear H
                have H := H1
                clear H1
                as_aux_lemma =>
                 have H' := Aside0.mk H
                 clear H
                 have hnb137 := NB101_102.out
                 have hnc137 := NB102_101.out
                 have hcz138_0 : w110.cell? ⟨gb101, 0, none⟩ = some (.int .i64 a0_0) := (blk_cell BK101.out 0).trans rfl
                 have hcz138_1 : w110.cell? ⟨gb101, 1, none⟩ = some (.int .i64 a0_1) := (blk_cell BK101.out 1).trans rfl
                 have hcz138_2 : w110.cell? ⟨gb101, 2, none⟩ = some (.int .i64 a0_2) := (blk_cell BK101.out 2).trans rfl
                 go_wp2_with (first | ((with_reducible refine gate_callee (f := 22) rfl ?_); refine goesL_ (some 106) rfl rfl Try.func22 (by kernel_rfl) rfl #[.agg #[.int .i64 a0_0, .int .i64 a0_1, .int .i64 a0_2]] rfl (by (try simp only [List.map_toArray, List.map_cons, List.map_nil]); first | done | rfl | (simp only [List.length_drop, List.length_take]; rfl)) ?_; (with_reducible refine (vote_Right.calls a0_0 a0_1 a0_2 false _ A111.out).mono ?_); rintro e w139 ⟨rfl, hb⟩; refine ⟨_, rfl, ?_⟩; have n0_ := Aside0.mk (Kd.R_below (oR HO_7.out) hb); have n1_ := Aside0.mk (Kd.R_below (oR HO_8.out) hb); have n2_ := Aside0.mk (Kd.R_below (oR HO151.out) hb); have n3_ := Aside0.mk (Kd.R_below (oR HO161.out) hb); have n4_ := Aside0.mk (Kd.R_below (oR HO174.out) hb); have n5_ := Aside0.mk (Kd.R_below (oR HO184.out) hb); have n6_ := Aside0.mk (blk_below (g := gb101) (o := O35 a0_0 a0_1 a0_2) (oK BK101.out) hb); have n7_ := Aside0.mk (blk_below (g := gb102) (o := O47 a1_0 a1_1 a1_2 a1_3 a1_4 a1_5 a1_6 a1_7 a1_8 a1_9 a1_10) (oK BK102.out) hb); have n8_ := Aside0.mk (below_step (oB2 HB.out GE101.out GE102.out) hb); clear HO_7; clear HO_8; clear HO151; clear HO161; clear HO174; clear HO184; clear BK101; clear BK102; clear HB; have HO_7 := n0_; have HO_8 := n1_; have HO151 := n2_; have HO161 := n3_; have HO174 := n4_; have HO184 := n5_; have BK101 := n6_; have BK102 := n7_; have HB := n8_; clear n0_ n1_ n2_ n3_ n4_ n5_ n6_ n7_ n8_; (try clear hb); (try clear hb2); (try clear hk); (try clear hi)))
                 go_meet
                 case rel => exact ⟨_, (false), (by first | rfl | (simp; done) | (simp [*]; done)), H', ⟨by have := HK1.out; first | omega | exact Nat.le_refl _⟩, ⟨oK BK101.out⟩, ⟨oK BK102.out⟩, ⟨oB2 HB.out GE101.out GE102.out⟩⟩
              case rest => as_aux_lemma =>
               clear HC78
               try clear c1
               try clear c2
               try clear p2
               try clear p6
               try clear c7
               try clear c11
               try clear c12
               try clear c13
               try clear c19
               try clear c22
               try clear p64
               try clear c72
               try clear c73
               try clear c76
               try clear c112
               try clear c113
               try clear c113b0
               try clear c114
               try clear c114b0
               try clear c115
               try clear c119
               try clear c119b0
               try clear c120
               try clear c124
               try clear c128
               try clear c128b0
               try clear c129
               try clear c133
               try clear c137
               try clear hcz107_0
               try clear hcz107_1
               try clear hcz107_2
               try clear hcz116_0
               try clear hcz116_1
               try clear hcz116_2
               try clear hcz118_0
               try clear hcz118_1
               try clear hcz118_2
               try clear hcz121_0
               try clear hcz121_1
               try clear hcz121_2
               try clear hcz123_0
               try clear hcz123_1
               try clear hcz123_2
               try clear hcz125_0
               try clear hcz125_1
               try clear hcz125_2
               try clear hcz127_0
               try clear hcz127_1
               try clear hcz127_2
               try clear hcz130_0
               try clear hcz130_1
               try clear hcz130_2
               try clear hcz132_0
               try clear hcz132_1
               try clear hcz132_2
               try clear hcz134_0
               try clear hcz134_1
               try clear hcz134_2
               try clear hcz136_0
               try clear hcz136_1
               try clear hcz136_2
               try clear hcz138_0
               try clear hcz138_1
               try clear hcz138_2
               obtain ⟨kq, x16_77, rfl, HA, HJ77, BK101, BK102, HB⟩ := hcut
               cases kq with
               | zero => exact absurd HA.out (by simp [rudderlaw12_VoteBounded.j1])
               | succ kj77 =>
                have H := HA.out
                clear HA
                simp only [rudderlaw12_VoteBounded.j1] at H
                by_cases c140 : x16_77 = true
                ·subst c140
                 have H1 : ((rudderlaw12_alive.f).bind fun t188 => (if t188 = true then (if t186 = true then (if t185 ≥ (wrap64 ((wrap64 (a1_0)) - a0_2)) then (if t185 ≤ (wrap64 ((wrap64 ((wrap64 (a1_0)) + (wrap64 (a1_2)))) + a0_2)) then (if t185 ≥ a0_0 then (some (decide (t185 ≤ a0_1))) else (none)) else (none)) else (none)) else (none)) else (none))) = some r := by rw [if_pos rfl] at H; exact H
                 clear H
                 have H := H1
                 clear H1
                 replace H := Option.bind_eq_some_iff.mp H
                 obtain ⟨t188, A1410, H⟩ := H
                 replace H : (if t188 = true then (if t186 = true then (if t185 ≥ (wrap64 ((wrap64 (a1_0)) - a0_2)) then (if t185 ≤ (wrap64 ((wrap64 ((wrap64 (a1_0)) + (wrap64 (a1_2)))) + a0_2)) then (if t185 ≥ a0_0 then (some (decide (t185 ≤ a0_1))) else (none)) else (none)) else (none)) else (none)) else (none)) = some r := H
                 have A141 := Aside0.mk A1410
                 clear A1410
                 by_cases c142 : t188 = true
                 ·subst c142
                  have H1 : (if t186 = true then (if t185 ≥ (wrap64 ((wrap64 (a1_0)) - a0_2)) then (if t185 ≤ (wrap64 ((wrap64 ((wrap64 (a1_0)) + (wrap64 (a1_2)))) + a0_2)) then (if t185 ≥ a0_0 then (some (decide (t185 ≤ a0_1))) else (none)) else (none)) else (none)) else (none)) = some r := by rw [if_pos rfl] at H; exact H
                  clear H
                  have H := H1
                  clear H1
                  by_cases c143 : t186 = true
                  ·subst c143
                   have H1 : (if t185 ≥ (wrap64 ((wrap64 (a1_0)) - a0_2)) then (if t185 ≤ (wrap64 ((wrap64 ((wrap64 (a1_0)) + (wrap64 (a1_2)))) + a0_2)) then (if t185 ≥ a0_0 then (some (decide (t185 ≤ a0_1))) else (none)) else (none)) else (none)) = some r := by rw [if_pos rfl] at H; exact H
                   clear H
                   have H := H1
                   clear H1
                   by_cases c144 : t185 ≥ (wrap64 ((wrap64 (a1_0)) - a0_2))
                   ·rw [if_pos c144] at H
                    have c144b0 : decide ((wrap64 ((wrap64 (a1_0)) - a0_2)) ≤ t185) = true := decide_eq_true c144
                    clear c144
                    by_cases c145 : t185 ≤ (wrap64 ((wrap64 ((wrap64 (a1_0)) + (wrap64 (a1_2)))) + a0_2))
                    ·rw [if_pos c145] at H
                     have c145b0 : decide (t185 ≤ (wrap64 ((wrap64 ((wrap64 (a1_0)) + (wrap64 (a1_2)))) + a0_2))) = true := decide_eq_true c145
                     clear c145
                     by_cases c146 : t185 ≥ a0_0
                     ·rw [if_pos c146] at H
                      have c146b0 : decide (a0_0 ≤ t185) = true := decide_eq_true c146
                      clear c146
                      as_aux_lemma =>
                       obtain rfl := Option.some.inj H
                       go_wp2_with (first | ((with_reducible refine gate_callee (f := 18) rfl ?_); refine goesL_ (some 140) rfl rfl Try.func18 (by kernel_rfl) rfl #[] rfl (by (try simp only [List.map_toArray, List.map_cons, List.map_nil]); first | done | rfl | (simp only [List.length_drop, List.length_take]; rfl)) ?_; (with_reducible refine (rudderlaw12_alive.calls  true _ A141.out).mono ?_); rintro e w147 ⟨rfl, hb⟩; refine ⟨_, rfl, ?_⟩; have n0_ := Aside0.mk (blk_below (g := gb101) (o := O35 a0_0 a0_1 a0_2) (oK BK101.out) hb); have n1_ := Aside0.mk (blk_below (g := gb102) (o := O47 a1_0 a1_1 a1_2 a1_3 a1_4 a1_5 a1_6 a1_7 a1_8 a1_9 a1_10) (oK BK102.out) hb); have n2_ := Aside0.mk (below_step (oB2 HB.out GE101.out GE102.out) hb); clear BK101; clear BK102; clear HB; have BK101 := n0_; have BK102 := n1_; have HB := n2_; clear n0_ n1_ n2_; (try clear hb); (try clear hb2); (try clear hk); (try clear hi); have hnb148 := NB101_102.out; have hnc148 := NB102_101.out; have hcz149_0 : w147.cell? ⟨gb101, 0, none⟩ = some (.int .i64 a0_0) := (blk_cell BK101.out 0).trans rfl; have hcz149_1 : w147.cell? ⟨gb101, 1, none⟩ = some (.int .i64 a0_1) := (blk_cell BK101.out 1).trans rfl; have hcz149_2 : w147.cell? ⟨gb101, 2, none⟩ = some (.int .i64 a0_2) := (blk_cell BK101.out 2).trans rfl; have hfz149_2 := blk_frozen BK101.out 2))
                       go_ret
                       exact ⟨by first | rfl | (simp [errW_none, errW_some] <;> rfl) | (simp only [← hji62]; first | rfl | (simp [errW_none, errW_some] <;> rfl)) | (simp [*, errW_none, errW_some] <;> rfl), by repeat (first | (with_reducible first | exact HB.out | apply below_alloc | apply pw_below_drewN | apply below_drew1 | refine below_set ?_ GE101.out | refine below_set ?_ GE102.out) | exact HB.out)⟩
                     ·rw [if_neg c146] at H
                      exact absurd H (by simp)
                    ·rw [if_neg c145] at H
                     exact absurd H (by simp)
                   ·rw [if_neg c144] at H
                    exact absurd H (by simp)
                  ·replace c143 := Bool.eq_false_iff.mpr c143
                   subst c143
                   have H1 : (none) = some r := by rw [if_neg (show ¬ (false = true) by decide)] at H; exact H
                   clear H
                   have H := H1
                   clear H1
                   exact absurd H (by simp)
                 ·replace c142 := Bool.eq_false_iff.mpr c142
                  subst c142
                  have H1 : (none) = some r := by rw [if_neg (show ¬ (false = true) by decide)] at H; exact H
                  clear H
                  have H := H1
                  clear H1
                  exact absurd H (by simp)
                ·replace c140 := Bool.eq_false_iff.mpr c140
                 subst c140
                 have H1 : ((rudderlaw12_alive.f).bind fun t189 => (if t189 = true then ((vote_Right.f a0_0 a0_1 a0_2).bind fun t190 => (some (t186 == t190))) else (none))) = some r := by rw [if_neg (show ¬ (false = true) by decide)] at H; exact H
                 clear H
                 have H := H1
                 clear H1
                 replace H := Option.bind_eq_some_iff.mp H
                 obtain ⟨t189, A1500, H⟩ := H
                 replace H : (if t189 = true then ((vote_Right.f a0_0 a0_1 a0_2).bind fun t190 => (some (t186 == t190))) else (none)) = some r := H
                 have A150 := Aside0.mk A1500
                 clear A1500
                 by_cases c151 : t189 = true
                 ·subst c151
                  have H1 : ((vote_Right.f a0_0 a0_1 a0_2).bind fun t190 => (some (t186 == t190))) = some r := by rw [if_pos rfl] at H; exact H
                  clear H
                  have H := H1
                  clear H1
                  replace H := Option.bind_eq_some_iff.mp H
                  obtain ⟨t190, A1520, H⟩ := H
                  replace H : (some (t186 == t190)) = some r := H
                  have A152 := Aside0.mk A1520
                  clear A1520
                  as_aux_lemma =>
                   obtain rfl := Option.some.inj H
                   go_wp2_with (first | ((with_reducible refine gate_callee (f := 18) rfl ?_); refine goesL_ (some 133) rfl rfl Try.func18 (by kernel_rfl) rfl #[] rfl (by (try simp only [List.map_toArray, List.map_cons, List.map_nil]); first | done | rfl | (simp only [List.length_drop, List.length_take]; rfl)) ?_; (with_reducible refine (rudderlaw12_alive.calls  true _ A150.out).mono ?_); rintro e w153 ⟨rfl, hb⟩; refine ⟨_, rfl, ?_⟩; have n0_ := Aside0.mk (blk_below (g := gb101) (o := O35 a0_0 a0_1 a0_2) (oK BK101.out) hb); have n1_ := Aside0.mk (blk_below (g := gb102) (o := O47 a1_0 a1_1 a1_2 a1_3 a1_4 a1_5 a1_6 a1_7 a1_8 a1_9 a1_10) (oK BK102.out) hb); have n2_ := Aside0.mk (below_step (oB2 HB.out GE101.out GE102.out) hb); clear BK101; clear BK102; clear HB; have BK101 := n0_; have BK102 := n1_; have HB := n2_; clear n0_ n1_ n2_; (try clear hb); (try clear hb2); (try clear hk); (try clear hi); have hnb154 := NB101_102.out; have hnc154 := NB102_101.out; have hcz155_0 : w153.cell? ⟨gb101, 0, none⟩ = some (.int .i64 a0_0) := (blk_cell BK101.out 0).trans rfl; have hcz155_1 : w153.cell? ⟨gb101, 1, none⟩ = some (.int .i64 a0_1) := (blk_cell BK101.out 1).trans rfl; have hcz155_2 : w153.cell? ⟨gb101, 2, none⟩ = some (.int .i64 a0_2) := (blk_cell BK101.out 2).trans rfl; have hfz155_2 := blk_frozen BK101.out 2) | (go_at_call 22; (with_reducible refine (vote_Right.calls a0_0 a0_1 a0_2 t190 _ A152.out).mono ?_); rintro e w156 ⟨rfl, hb⟩; have n0_ := Aside0.mk (blk_below (g := gb101) (o := O35 a0_0 a0_1 a0_2) (oK BK101.out) hb); have n1_ := Aside0.mk (blk_below (g := gb102) (o := O47 a1_0 a1_1 a1_2 a1_3 a1_4 a1_5 a1_6 a1_7 a1_8 a1_9 a1_10) (oK BK102.out) hb); have n2_ := Aside0.mk (below_step (oB2 HB.out GE101.out GE102.out) hb); clear BK101; clear BK102; clear HB; have BK101 := n0_; have BK102 := n1_; have HB := n2_; clear n0_ n1_ n2_; (try clear hb); (try clear hb2); (try clear hk); (try clear hi)))
                   go_ret
                   exact ⟨by first | rfl | (simp [errW_none, errW_some] <;> rfl) | (simp only [← hji62]; first | rfl | (simp [errW_none, errW_some] <;> rfl)) | (simp [*, errW_none, errW_some] <;> rfl), by repeat (first | (with_reducible first | exact HB.out | apply below_alloc | apply pw_below_drewN | apply below_drew1 | refine below_set ?_ GE101.out | refine below_set ?_ GE102.out) | exact HB.out)⟩
                 ·replace c151 := Bool.eq_false_iff.mpr c151
                  subst c151
                  have H1 : (none) = some r := by rw [if_neg (show ¬ (false = true) by decide)] at H; exact H
                  clear H
                  have H := H1
                  clear H1
                  exact absurd H (by simp)
             ·rw [if_neg c76] at H
              exact absurd H (by simp)
            ·rw [if_neg c73] at H
             exact absurd H (by simp)
           ·rw [if_neg c72] at H
            exact absurd H (by simp)
          ·rw [if_neg c71] at H
           exact absurd H (by simp)
         ·rw [if_neg c69] at H
          exact absurd H (by simp)
        ·rw [if_neg c66] at H
         exact absurd H (by simp)
       ·rw [if_neg c65] at H
        exact absurd H (by simp)
      ·rw [if_neg c64] at H
       exact absurd H (by simp)
     ·rw [if_neg c63] at H
      exact absurd H (by simp)

end Go.Proofs.Ytdhmefdnpiidbaa.PVoteBounded

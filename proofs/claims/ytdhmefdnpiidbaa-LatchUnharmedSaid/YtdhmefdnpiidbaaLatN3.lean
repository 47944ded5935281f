/- latch.Next of a state that is in, latched, or out. -/
import Derived.Test.YtdhmefdnpiidbaaLatN
import Derived.Test.YtdhmefdnpiidbaaRG
import Derived.OwnWalkIn
import Derived.TacticsInMore
import Derived.Sort.QuietTacIn
namespace Go.Proofs.Ytdhmefdnpiidbaa.Lat
open Go.RowKit Go.Proofs.YtdhmefdnpiidbaaW.PrintWords Go.Proofs.YtdhmefdnpiidbaaW.PrintLast Go.Proofs.YtdhmefdnpiidbaaW.PrintMore
open Go.Proofs.Ytdhmefdnpiidbaa.Base Go.Proofs.Ytdhmefdnpiidbaa.LatM Go.Proofs.Ytdhmefdnpiidbaa.RG
attribute [local go_sem] uponRG_value uponRG_skip uponRG_enter
set_option linter.unusedVariables false
set_option linter.unusedSimpArgs false

set_option maxRecDepth 100000 in
set_option maxHeartbeats 8000000 in
theorem next_latched (L C B st cl bk : Int) (t : Bool) (x1 x2 : Bool) (x3 x4 x5 x6 : Int) (w : World) (h : latch_Fine.f L C B true false st cl bk = some true) (hx : latch_latched_next.f true false st cl bk L C B t = some (x1, x2, x3, x4, x5, x6)) :
    Calls Try.prog 68 #[.agg #[.int .i64 L, .int .i64 C, .int .i64 B], .agg #[.bool true, .bool false, .int .i64 st, .int .i64 cl, .int .i64 bk], .bool t] w fun e w' => e = .returned (.tuple #[.agg #[.bool x1, .bool x2, .int .i64 x3, .int .i64 x4, .int .i64 x5], .int .i64 x6, .int .i64 0]) ∧ Below w.heap.size w w' := by
  have hu23 := Try.underlying23
  have hu28 := Try.underlying28
  have H := Aside0.mk h
  clear h
  have HX := Aside0.mk hx
  clear hx
  go_enter Try.func68, Try.ntmps68
  go_wp2_with (first
    | ((with_reducible refine gate_dst (N := 3) rfl ?_); refine box_event ?hg (N := 3) ?hd (cs := #[.int .i64 L, .int .i64 C, .int .i64 B]) (t := 23) ?hr ?_; (case hd => rfl); (case hg => rfl); (case hr => first | (go_simp; done) | (go_simp; rfl)); intro g0 hg u1 hbox hb; have HB1 := Aside0.mk (below_step (w := w) (by repeat (first | (with_reducible first | exact Below.refl _ _ | apply below_alloc | apply pw_below_drewN | apply below_drew1) | exact Below.refl _ _)) hb); have R1 := Aside0.mk hbox; have Gg0 := Aside0.mk (by rw [hg]; exact below_size (by repeat (first | (with_reducible first | exact Below.refl _ _ | apply below_alloc | apply pw_below_drewN | apply below_drew1) | exact Below.refl _ _)) : w.heap.size ≤ g0); clear hb hbox hg)
    | ((with_reducible refine gate_dst (N := 4) rfl ?_); refine box_event ?hg (N := 4) ?hd (cs := #[.bool true, .bool false, .int .i64 st, .int .i64 cl, .int .i64 bk]) (t := 28) ?hr ?_; (case hd => rfl); (case hg => rfl); (case hr => first | (go_simp; done) | (go_simp; rfl)); intro g1 hg u2 hbox hb; have R2 := Aside0.mk (blk_below (g := g0) (o := .cells #[.int .i64 L, .int .i64 C, .int .i64 B] 23 (0, 0)) (by (with_reducible repeat (first | refine blk_drewN ?_ _ | refine blk_drew ?_ | refine blk_alloc ?_ _)); exact R1.out) hb); have lt_g0_g1 := Aside0.mk (by rw [hg]; exact blk_lt (g := g0) (o := .cells #[.int .i64 L, .int .i64 C, .int .i64 B] 23 (0, 0)) (by (with_reducible repeat (first | refine blk_drewN ?_ _ | refine blk_drew ?_ | refine blk_alloc ?_ _)); exact R1.out) : g0 < g1); have HB2 := Aside0.mk (below_step (w := w) (by repeat (first | (with_reducible first | exact HB1.out | apply below_alloc | apply pw_below_drewN | apply below_drew1) | exact HB1.out)) hb); have S2 := Aside0.mk hbox; have Gg1 := Aside0.mk (by rw [hg]; exact below_size (by repeat (first | (with_reducible first | exact HB1.out | apply below_alloc | apply pw_below_drewN | apply below_drew1) | exact HB1.out)) : w.heap.size ≤ g1); clear hb hbox hg)
    | ((with_reducible refine gate_dst (N := 6) rfl ?_); refine box_event ?hg (N := 6) ?hd (cs := #[.bool false, .bool false, .int .i64 0, .int .i64 0, .int .i64 0]) (t := 28) ?hr ?_; (case hd => rfl); (case hg => rfl); (case hr => first | (go_simp; done) | (go_simp; rfl)); intro g2 hg u3 hbox hb; have R3 := Aside0.mk (blk_below (g := g0) (o := .cells #[.int .i64 L, .int .i64 C, .int .i64 B] 23 (0, 0)) (by (with_reducible repeat (first | refine blk_drewN ?_ _ | refine blk_drew ?_ | refine blk_alloc ?_ _)); exact R2.out) hb); have lt_g0_g2 := Aside0.mk (by rw [hg]; exact blk_lt (g := g0) (o := .cells #[.int .i64 L, .int .i64 C, .int .i64 B] 23 (0, 0)) (by (with_reducible repeat (first | refine blk_drewN ?_ _ | refine blk_drew ?_ | refine blk_alloc ?_ _)); exact R2.out) : g0 < g2); have S3 := Aside0.mk (blk_below (g := g1) (o := .cells #[.bool true, .bool false, .int .i64 st, .int .i64 cl, .int .i64 bk] 28 (0, 0)) (by (with_reducible repeat (first | refine blk_drewN ?_ _ | refine blk_drew ?_ | refine blk_alloc ?_ _)); exact S2.out) hb); have lt_g1_g2 := Aside0.mk (by rw [hg]; exact blk_lt (g := g1) (o := .cells #[.bool true, .bool false, .int .i64 st, .int .i64 cl, .int .i64 bk] 28 (0, 0)) (by (with_reducible repeat (first | refine blk_drewN ?_ _ | refine blk_drew ?_ | refine blk_alloc ?_ _)); exact S2.out) : g1 < g2); have HB3 := Aside0.mk (below_step (w := w) (by repeat (first | (with_reducible first | exact HB2.out | apply below_alloc | apply pw_below_drewN | apply below_drew1) | exact HB2.out)) hb); have N3 := Aside0.mk hbox; have Gg2 := Aside0.mk (by rw [hg]; exact below_size (by repeat (first | (with_reducible first | exact HB2.out | apply below_alloc | apply pw_below_drewN | apply below_drew1) | exact HB2.out)) : w.heap.size ≤ g2); clear hb hbox hg; have r3_0 : World.cell? _ ⟨g0, 0, none⟩ = some (.int .i64 L) := (blk_cell R3.out 0).trans rfl; have r3_1 : World.cell? _ ⟨g0, 1, none⟩ = some (.int .i64 C) := (blk_cell R3.out 1).trans rfl; have r3_2 : World.cell? _ ⟨g0, 2, none⟩ = some (.int .i64 B) := (blk_cell R3.out 2).trans rfl; have s3_0 : World.cell? _ ⟨g1, 0, none⟩ = some (.bool true) := (blk_cell S3.out 0).trans rfl; have s3_1 : World.cell? _ ⟨g1, 1, none⟩ = some (.bool false) := (blk_cell S3.out 1).trans rfl; have s3_2 : World.cell? _ ⟨g1, 2, none⟩ = some (.int .i64 st) := (blk_cell S3.out 2).trans rfl; have s3_3 : World.cell? _ ⟨g1, 3, none⟩ = some (.int .i64 cl) := (blk_cell S3.out 3).trans rfl; have s3_4 : World.cell? _ ⟨g1, 4, none⟩ = some (.int .i64 bk) := (blk_cell S3.out 4).trans rfl)
    | (go_at_call 69; refine (latch_Fine.calls _ _ _ _ _ _ _ _ _ _ H.out).mono ?_; rintro e w1 ⟨rfl, hb⟩; have R4 := Aside0.mk (blk_below (g := g0) (o := .cells #[.int .i64 L, .int .i64 C, .int .i64 B] 23 (0, 0)) (by (with_reducible repeat (first | refine blk_drewN ?_ _ | refine blk_drew ?_ | refine blk_alloc ?_ _)); exact R3.out) hb); have S4 := Aside0.mk (blk_below (g := g1) (o := .cells #[.bool true, .bool false, .int .i64 st, .int .i64 cl, .int .i64 bk] 28 (0, 0)) (by (with_reducible repeat (first | refine blk_drewN ?_ _ | refine blk_drew ?_ | refine blk_alloc ?_ _)); exact S3.out) hb); have N4 := Aside0.mk (blk_below (g := g2) (o := .cells #[.bool false, .bool false, .int .i64 0, .int .i64 0, .int .i64 0] 28 (0, 0)) (by (with_reducible repeat (first | refine blk_drewN ?_ _ | refine blk_drew ?_ | refine blk_alloc ?_ _)); exact N3.out) hb); have y2 := Aside0.mk (blk_lt N4.out); have HB4 := Aside0.mk (below_step (w := w) (by repeat (first | (with_reducible first | exact HB3.out | apply below_alloc | apply pw_below_drewN | apply below_drew1) | exact HB3.out)) hb); clear hb; clear r3_0 r3_1 r3_2 s3_0 s3_1 s3_2 s3_3 s3_4))
  refine (wpIn_wide (n := 0)).1 ?_
  refine wpIn_region_rg 11 (by kernel_rfl) (by kernel_rfl) (Keeps w1.drew) [8, 9] (BoxJ w1.heap.size (.cells #[.bool false, .bool false, .int .i64 0, .int .i64 0, .int .i64 0] 28 (0, 0)) (.cells #[.bool x1, .bool x2, .int .i64 x3, .int .i64 x4, .int .i64 x5] 28 (0, 0))) (tellOf [some (.agg #[.bool true, .bool false, .int .i64 st, .int .i64 cl, .int .i64 bk]), some (.iface 161 (.agg #[.bool true, .bool false, .int .i64 st, .int .i64 cl, .int .i64 bk])), some (.agg #[.int .i64 L, .int .i64 C, .int .i64 B]), some (.bool t), some (.tuple #[(.agg #[.bool x1, .bool x2, .int .i64 x3, .int .i64 x4, .int .i64 x5]), .int .i64 x6]), some (.tuple #[(.agg #[.bool x1, .bool x2, .int .i64 x3, .int .i64 x4, .int .i64 x5]), .int .i64 x6]), some (.agg #[.bool x1, .bool x2, .int .i64 x3, .int .i64 x4, .int .i64 x5]), some (.int .i64 x6), none, none, some (.int .i64 x6)]) (by decide) (Keeps.refl _) (fun us => BoxJ.start _ _ _) ?_
  simp only [List.take_succ_cons, List.take_zero, List.drop_succ_cons, List.drop_zero]
  have R5 : (w1.drew).heap[g0]? = some (.cells #[.int .i64 L, .int .i64 C, .int .i64 B] 23 (0, 0)) := R4.out
  have S5 : (w1.drew).heap[g1]? = some (.cells #[.bool true, .bool false, .int .i64 st, .int .i64 cl, .int .i64 bk] 28 (0, 0)) := S4.out
  refine rg_val _ rfl rfl (fun _ _ h k => h.trans k) BoxJ.keeps (fun Ls us V hV hu hb hJ => opRG_run (fun _ => trivial) (by rfl) ?_) ?_
  · clear hu hb hJ
    have s_0 : V.cell? ⟨g1, 0, none⟩ = some (.bool true) := (blk_cell (blk_below S5 hV) 0).trans rfl
    have s_1 : V.cell? ⟨g1, 1, none⟩ = some (.bool false) := (blk_cell (blk_below S5 hV) 1).trans rfl
    have s_2 : V.cell? ⟨g1, 2, none⟩ = some (.int .i64 st) := (blk_cell (blk_below S5 hV) 2).trans rfl
    have s_3 : V.cell? ⟨g1, 3, none⟩ = some (.int .i64 cl) := (blk_cell (blk_below S5 hV) 3).trans rfl
    have s_4 : V.cell? ⟨g1, 4, none⟩ = some (.int .i64 bk) := (blk_cell (blk_below S5 hV) 4).trans rfl
    go_simp
    exact Keeps.refl _
  refine rg_val _ rfl rfl (fun _ _ h k => h.trans k) BoxJ.keeps (fun Ls us V hV hu hb hJ => opRG_run (fun _ => trivial) (by rfl) ?_) ?_
  · clear hu hb hJ
    go_simp
    refine ⟨by first | rfl | (intro h; cases h), callsIn_wide.2 ((of_latched _ _ _ _).mono fun e w2 ⟨he, hb⟩ => ⟨_, he, rfl, hb⟩)⟩
  refine rg_val _ rfl rfl (fun _ _ h k => h.trans k) BoxJ.keeps (fun Ls us V hV hu hb hJ => opRG_run (fun _ => trivial) (by rfl) ?_) ?_
  · clear hu hb hJ
    have r_0 : V.cell? ⟨g0, 0, none⟩ = some (.int .i64 L) := (blk_cell (blk_below R5 hV) 0).trans rfl
    have r_1 : V.cell? ⟨g0, 1, none⟩ = some (.int .i64 C) := (blk_cell (blk_below R5 hV) 1).trans rfl
    have r_2 : V.cell? ⟨g0, 2, none⟩ = some (.int .i64 B) := (blk_cell (blk_below R5 hV) 2).trans rfl
    go_simp
    exact Keeps.refl _
  refine rg_val _ rfl rfl (fun _ _ h k => h.trans k) BoxJ.keeps (fun Ls us V hV hu hb hJ => opRG_run (fun _ => trivial) (by rfl) ?_) ?_
  · clear hu hb hJ
    go_simp
    exact Keeps.refl _
  refine rg_val _ rfl rfl (fun _ _ h k => h.trans k) BoxJ.keeps (fun Ls us V hV hu hb hJ => opRG_run (fun _ => trivial) (by rfl) ?_) ?_
  · clear hu hb hJ
    go_simp
    refine ⟨by first | rfl | (intro h; cases h), callsIn_wide.2 ((latch_latched_next.calls _ _ _ _ _ _ _ _ _ _ _ _ _ _ _ _ HX.out).mono fun e w2 ⟨he, hb⟩ => ⟨_, he, rfl, hb⟩)⟩
  refine rg_val _ rfl rfl (fun _ _ h k => h.trans k) BoxJ.keeps (fun Ls us V hV hu hb hJ => opRG_run (fun _ => trivial) (by rfl) ?_) ?_
  · clear hu hb hJ
    go_simp
    exact Keeps.refl _
  refine rg_val _ rfl rfl (fun _ _ h k => h.trans k) BoxJ.keeps (fun Ls us V hV hu hb hJ => opRG_run (fun _ => trivial) (by rfl) ?_) ?_
  · clear hu hb hJ
    go_simp
    exact Keeps.refl _
  refine rg_val _ rfl rfl (fun _ _ h k => h.trans k) BoxJ.keeps (fun Ls us V hV hu hb hJ => opRG_run (fun _ => trivial) (by rfl) ?_) ?_
  · clear hu hb hJ
    go_simp
    exact Keeps.refl _
  refine rg_rel rfl (fun Ls us V hV hu hL hb hJ => opRG.mono (N := fun v w' => v = .pointer (some ⟨V.heap.size, 0, none⟩) ∧ w' = V.alloc (.cells #[.bool false, .bool false, .int .i64 0, .int .i64 0, .int .i64 0] 28 (0, 0))) ?_ (opRG_run (fun _ => trivial) (by rfl) ?_)) (fun p => ?_)
  · rintro v w' ⟨rfl, rfl⟩
    exact ⟨hV.trans ((Below.refl _ V).alloc (Nat.le_refl _) _), BoxJ.made hJ hL rfl hV.size (blk_new _ _)⟩
  · clear hu hb hJ
    go_simp
  refine rg_rel rfl (fun Ls us V hV hu hL hb hJ => ?_) (fun q => ?_)
  · obtain ⟨g, e, hl, hg⟩ := BoxJ.get hJ (hb 8 (by kernel_rfl))
    have e' : p = .pointer (some ⟨g, 0, none⟩) := (hu 8 (by decide)).symm.trans e
    subst e'
    rw [if_neg (by rw [hL]; simp)] at hg
    have h8 : Ls 8 = true := hb 8 (by kernel_rfl)
    clear hb
    refine opRG.mono (N := fun v w' => w' = (World.setCell (World.setCell (World.setCell (World.setCell (World.setCell V ⟨g, 0, none⟩ (.bool x1)) ⟨g, 1, none⟩ (.bool x2)) ⟨g, 2, none⟩ (.int .i64 x3)) ⟨g, 3, none⟩ (.int .i64 x4)) ⟨g, 4, none⟩ (.int .i64 x5))) ?_ (opRG_run (fun _ => trivial) (by rfl) ?_)
    · rintro v w' rfl
      refine ⟨?_, ?_⟩
      · exact (((((show Below w1.heap.size w1.drew V from hV).setCell (p := ⟨g, 0, none⟩) hl _).setCell (p := ⟨g, 1, none⟩) hl _).setCell (p := ⟨g, 2, none⟩) hl _).setCell (p := ⟨g, 3, none⟩) hl _).setCell (p := ⟨g, 4, none⟩) hl _
      · have hF := BoxJ.filled (o0 := (.cells #[.bool false, .bool false, .int .i64 0, .int .i64 0, .int .i64 0] 28 (0, 0))) (q := v) hl (blk_put (cs := #[.bool x1, .bool x2, .int .i64 x3, .int .i64 x4, .int .i64 0]) (cs' := #[.bool x1, .bool x2, .int .i64 x3, .int .i64 x4, .int .i64 x5]) (blk_put (cs := #[.bool x1, .bool x2, .int .i64 x3, .int .i64 0, .int .i64 0]) (cs' := #[.bool x1, .bool x2, .int .i64 x3, .int .i64 x4, .int .i64 0]) (blk_put (cs := #[.bool x1, .bool x2, .int .i64 0, .int .i64 0, .int .i64 0]) (cs' := #[.bool x1, .bool x2, .int .i64 x3, .int .i64 0, .int .i64 0]) (blk_put (cs := #[.bool x1, .bool false, .int .i64 0, .int .i64 0, .int .i64 0]) (cs' := #[.bool x1, .bool x2, .int .i64 0, .int .i64 0, .int .i64 0]) (blk_put (cs := #[.bool false, .bool false, .int .i64 0, .int .i64 0, .int .i64 0]) (cs' := #[.bool x1, .bool false, .int .i64 0, .int .i64 0, .int .i64 0]) hg 0 _ rfl) 1 _ rfl) 2 _ rfl) 3 _ rfl) 4 _ rfl)
        have e8 : Ls 8 = true := h8
        show BoxJ _ _ _ [upd Ls 9 true 8, upd Ls 9 true 9] [upd us 9 v 8, upd us 9 v 9] _
        rw [upd_same, upd_same, upd_ne _ _ (by decide), upd_ne _ _ (by decide), e8, e]
        exact hF
    · have a_0 : V.cell? ⟨g, 0, none⟩ = some (.bool false) := (blk_cell hg 0).trans rfl; have fa_0 : V.frozen? ⟨g, 0, none⟩ = false := blk_frozen hg 0; have a_1 : V.cell? ⟨g, 1, none⟩ = some (.bool false) := (blk_cell hg 1).trans rfl; have fa_1 : V.frozen? ⟨g, 1, none⟩ = false := blk_frozen hg 1; have a_2 : V.cell? ⟨g, 2, none⟩ = some (.int .i64 0) := (blk_cell hg 2).trans rfl; have fa_2 : V.frozen? ⟨g, 2, none⟩ = false := blk_frozen hg 2; have a_3 : V.cell? ⟨g, 3, none⟩ = some (.int .i64 0) := (blk_cell hg 3).trans rfl; have fa_3 : V.frozen? ⟨g, 3, none⟩ = false := blk_frozen hg 3; have a_4 : V.cell? ⟨g, 4, none⟩ = some (.int .i64 0) := (blk_cell hg 4).trans rfl; have fa_4 : V.frozen? ⟨g, 4, none⟩ = false := blk_frozen hg 4
      go_simp
  refine rg_val _ rfl rfl (fun _ _ h k => h.trans k) BoxJ.keeps (fun Ls us V hV hu hb hJ => opRG_run (fun _ => trivial) (by rfl) ?_) ?_
  · clear hu hb hJ
    go_simp
    exact Keeps.refl _
  refine rgWalk.nil fun us V hV hu hJ => ?_
  obtain ⟨b, e, hl, hb⟩ := BoxJ.get hJ rfl
  have e' : p = .pointer (some ⟨b, 0, none⟩) := (hu 8 (by decide)).symm.trans e
  subst e'
  rw [if_pos rfl] at hb
  clear hJ hu
  have N5 := Aside0.mk (show V.heap[g2]? = some (.cells #[.bool false, .bool false, .int .i64 0, .int .i64 0, .int .i64 0] 28 (0, 0)) from blk_below (w := w1.drew) N4.out hV)
  have HB5 := Aside0.mk (below_step (w := w) HB4.out (show Below w1.heap.size w1 V from ⟨hV.os, hV.tape, hV.output, hV.size, hV.block⟩))
  have GA : g2 < b := Nat.lt_of_lt_of_le y2.out hl
  have HA := Aside0.mk hb
  clear hb
  have a_0 : V.cell? ⟨b, 0, none⟩ = some (.bool x1) := (blk_cell HA.out 0).trans rfl; have a_1 : V.cell? ⟨b, 1, none⟩ = some (.bool x2) := (blk_cell HA.out 1).trans rfl; have a_2 : V.cell? ⟨b, 2, none⟩ = some (.int .i64 x3) := (blk_cell HA.out 2).trans rfl; have a_3 : V.cell? ⟨b, 3, none⟩ = some (.int .i64 x4) := (blk_cell HA.out 3).trans rfl; have a_4 : V.cell? ⟨b, 4, none⟩ = some (.int .i64 x5) := (blk_cell HA.out 4).trans rfl
  have n_0 : V.cell? ⟨g2, 0, none⟩ = some (.bool false) := (blk_cell N5.out 0).trans rfl; have fn_0 : V.frozen? ⟨g2, 0, none⟩ = false := blk_frozen N5.out 0; have n_1 : V.cell? ⟨g2, 1, none⟩ = some (.bool false) := (blk_cell N5.out 1).trans rfl; have fn_1 : V.frozen? ⟨g2, 1, none⟩ = false := blk_frozen N5.out 1; have n_2 : V.cell? ⟨g2, 2, none⟩ = some (.int .i64 0) := (blk_cell N5.out 2).trans rfl; have fn_2 : V.frozen? ⟨g2, 2, none⟩ = false := blk_frozen N5.out 2; have n_3 : V.cell? ⟨g2, 3, none⟩ = some (.int .i64 0) := (blk_cell N5.out 3).trans rfl; have fn_3 : V.frozen? ⟨g2, 3, none⟩ = false := blk_frozen N5.out 3; have n_4 : V.cell? ⟨g2, 4, none⟩ = some (.int .i64 0) := (blk_cell N5.out 4).trans rfl; have fn_4 : V.frozen? ⟨g2, 4, none⟩ = false := blk_frozen N5.out 4
  have hne := Nat.ne_of_lt GA
  gi_wp2
  go_wp2
  refine bodyPost_ret (results_ctt rfl _ _ g2 28 #[.bool x1, .bool x2, .int .i64 x3, .int .i64 x4, .int .i64 x5] (0, 0) _ rfl (by (with_reducible repeat (first | refine blk_drewN ?_ _ | refine blk_drew ?_ | refine blk_alloc ?_ _)); refine blk_put (cs := #[.bool x1, .bool x2, .int .i64 x3, .int .i64 x4, .int .i64 0]) ?_ 4 _ rfl; (with_reducible repeat (first | refine blk_drewN ?_ _ | refine blk_drew ?_ | refine blk_alloc ?_ _)); refine blk_put (cs := #[.bool x1, .bool x2, .int .i64 x3, .int .i64 0, .int .i64 0]) ?_ 3 _ rfl; (with_reducible repeat (first | refine blk_drewN ?_ _ | refine blk_drew ?_ | refine blk_alloc ?_ _)); refine blk_put (cs := #[.bool x1, .bool x2, .int .i64 0, .int .i64 0, .int .i64 0]) ?_ 2 _ rfl; (with_reducible repeat (first | refine blk_drewN ?_ _ | refine blk_drew ?_ | refine blk_alloc ?_ _)); refine blk_put (cs := #[.bool x1, .bool false, .int .i64 0, .int .i64 0, .int .i64 0]) ?_ 1 _ rfl; (with_reducible repeat (first | refine blk_drewN ?_ _ | refine blk_drew ?_ | refine blk_alloc ?_ _)); refine blk_put (cs := #[.bool false, .bool false, .int .i64 0, .int .i64 0, .int .i64 0]) ?_ 0 _ rfl; (with_reducible repeat (first | refine blk_drewN ?_ _ | refine blk_drew ?_ | refine blk_alloc ?_ _)); exact N5.out) Try.underlying28 rfl (by kernel_rfl)) rfl ?_
  exact ⟨rfl, by repeat (first | exact HB5.out | (with_reducible apply below_alloc) | refine below_set ?_ Gg2.out)⟩
set_option maxRecDepth 100000 in
set_option maxHeartbeats 8000000 in
theorem next_in (L C B st cl bk : Int) (t : Bool) (x1 x2 : Bool) (x3 x4 x5 x6 : Int) (w : World) (h : latch_Fine.f L C B false false st cl bk = some true) (hx : latch_in_next.f false false st cl bk L C B t = some (x1, x2, x3, x4, x5, x6)) :
    Calls Try.prog 68 #[.agg #[.int .i64 L, .int .i64 C, .int .i64 B], .agg #[.bool false, .bool false, .int .i64 st, .int .i64 cl, .int .i64 bk], .bool t] w fun e w' => e = .returned (.tuple #[.agg #[.bool x1, .bool x2, .int .i64 x3, .int .i64 x4, .int .i64 x5], .int .i64 x6, .int .i64 0]) ∧ Below w.heap.size w w' := by
  have hu23 := Try.underlying23
  have hu28 := Try.underlying28
  have H := Aside0.mk h
  clear h
  have HX := Aside0.mk hx
  clear hx
  go_enter Try.func68, Try.ntmps68
  go_wp2_with (first
    | ((with_reducible refine gate_dst (N := 3) rfl ?_); refine box_event ?hg (N := 3) ?hd (cs := #[.int .i64 L, .int .i64 C, .int .i64 B]) (t := 23) ?hr ?_; (case hd => rfl); (case hg => rfl); (case hr => first | (go_simp; done) | (go_simp; rfl)); intro g0 hg u1 hbox hb; have HB1 := Aside0.mk (below_step (w := w) (by repeat (first | (with_reducible first | exact Below.refl _ _ | apply below_alloc | apply pw_below_drewN | apply below_drew1) | exact Below.refl _ _)) hb); have R1 := Aside0.mk hbox; have Gg0 := Aside0.mk (by rw [hg]; exact below_size (by repeat (first | (with_reducible first | exact Below.refl _ _ | apply below_alloc | apply pw_below_drewN | apply below_drew1) | exact Below.refl _ _)) : w.heap.size ≤ g0); clear hb hbox hg)
    | ((with_reducible refine gate_dst (N := 4) rfl ?_); refine box_event ?hg (N := 4) ?hd (cs := #[.bool false, .bool false, .int .i64 st, .int .i64 cl, .int .i64 bk]) (t := 28) ?hr ?_; (case hd => rfl); (case hg => rfl); (case hr => first | (go_simp; done) | (go_simp; rfl)); intro g1 hg u2 hbox hb; have R2 := Aside0.mk (blk_below (g := g0) (o := .cells #[.int .i64 L, .int .i64 C, .int .i64 B] 23 (0, 0)) (by (with_reducible repeat (first | refine blk_drewN ?_ _ | refine blk_drew ?_ | refine blk_alloc ?_ _)); exact R1.out) hb); have lt_g0_g1 := Aside0.mk (by rw [hg]; exact blk_lt (g := g0) (o := .cells #[.int .i64 L, .int .i64 C, .int .i64 B] 23 (0, 0)) (by (with_reducible repeat (first | refine blk_drewN ?_ _ | refine blk_drew ?_ | refine blk_alloc ?_ _)); exact R1.out) : g0 < g1); have HB2 := Aside0.mk (below_step (w := w) (by repeat (first | (with_reducible first | exact HB1.out | apply below_alloc | apply pw_below_drewN | apply below_drew1) | exact HB1.out)) hb); have S2 := Aside0.mk hbox; have Gg1 := Aside0.mk (by rw [hg]; exact below_size (by repeat (first | (with_reducible first | exact HB1.out | apply below_alloc | apply pw_below_drewN | apply below_drew1) | exact HB1.out)) : w.heap.size ≤ g1); clear hb hbox hg)
    | ((with_reducible refine gate_dst (N := 6) rfl ?_); refine box_event ?hg (N := 6) ?hd (cs := #[.bool false, .bool false, .int .i64 0, .int .i64 0, .int .i64 0]) (t := 28) ?hr ?_; (case hd => rfl); (case hg => rfl); (case hr => first | (go_simp; done) | (go_simp; rfl)); intro g2 hg u3 hbox hb; have R3 := Aside0.mk (blk_below (g := g0) (o := .cells #[.int .i64 L, .int .i64 C, .int .i64 B] 23 (0, 0)) (by (with_reducible repeat (first | refine blk_drewN ?_ _ | refine blk_drew ?_ | refine blk_alloc ?_ _)); exact R2.out) hb); have lt_g0_g2 := Aside0.mk (by rw [hg]; exact blk_lt (g := g0) (o := .cells #[.int .i64 L, .int .i64 C, .int .i64 B] 23 (0, 0)) (by (with_reducible repeat (first | refine blk_drewN ?_ _ | refine blk_drew ?_ | refine blk_alloc ?_ _)); exact R2.out) : g0 < g2); have S3 := Aside0.mk (blk_below (g := g1) (o := .cells #[.bool false, .bool false, .int .i64 st, .int .i64 cl, .int .i64 bk] 28 (0, 0)) (by (with_reducible repeat (first | refine blk_drewN ?_ _ | refine blk_drew ?_ | refine blk_alloc ?_ _)); exact S2.out) hb); have lt_g1_g2 := Aside0.mk (by rw [hg]; exact blk_lt (g := g1) (o := .cells #[.bool false, .bool false, .int .i64 st, .int .i64 cl, .int .i64 bk] 28 (0, 0)) (by (with_reducible repeat (first | refine blk_drewN ?_ _ | refine blk_drew ?_ | refine blk_alloc ?_ _)); exact S2.out) : g1 < g2); have HB3 := Aside0.mk (below_step (w := w) (by repeat (first | (with_reducible first | exact HB2.out | apply below_alloc | apply pw_below_drewN | apply below_drew1) | exact HB2.out)) hb); have N3 := Aside0.mk hbox; have Gg2 := Aside0.mk (by rw [hg]; exact below_size (by repeat (first | (with_reducible first | exact HB2.out | apply below_alloc | apply pw_below_drewN | apply below_drew1) | exact HB2.out)) : w.heap.size ≤ g2); clear hb hbox hg; have r3_0 : World.cell? _ ⟨g0, 0, none⟩ = some (.int .i64 L) := (blk_cell R3.out 0).trans rfl; have r3_1 : World.cell? _ ⟨g0, 1, none⟩ = some (.int .i64 C) := (blk_cell R3.out 1).trans rfl; have r3_2 : World.cell? _ ⟨g0, 2, none⟩ = some (.int .i64 B) := (blk_cell R3.out 2).trans rfl; have s3_0 : World.cell? _ ⟨g1, 0, none⟩ = some (.bool false) := (blk_cell S3.out 0).trans rfl; have s3_1 : World.cell? _ ⟨g1, 1, none⟩ = some (.bool false) := (blk_cell S3.out 1).trans rfl; have s3_2 : World.cell? _ ⟨g1, 2, none⟩ = some (.int .i64 st) := (blk_cell S3.out 2).trans rfl; have s3_3 : World.cell? _ ⟨g1, 3, none⟩ = some (.int .i64 cl) := (blk_cell S3.out 3).trans rfl; have s3_4 : World.cell? _ ⟨g1, 4, none⟩ = some (.int .i64 bk) := (blk_cell S3.out 4).trans rfl)
    | (go_at_call 69; refine (latch_Fine.calls _ _ _ _ _ _ _ _ _ _ H.out).mono ?_; rintro e w1 ⟨rfl, hb⟩; have R4 := Aside0.mk (blk_below (g := g0) (o := .cells #[.int .i64 L, .int .i64 C, .int .i64 B] 23 (0, 0)) (by (with_reducible repeat (first | refine blk_drewN ?_ _ | refine blk_drew ?_ | refine blk_alloc ?_ _)); exact R3.out) hb); have S4 := Aside0.mk (blk_below (g := g1) (o := .cells #[.bool false, .bool false, .int .i64 st, .int .i64 cl, .int .i64 bk] 28 (0, 0)) (by (with_reducible repeat (first | refine blk_drewN ?_ _ | refine blk_drew ?_ | refine blk_alloc ?_ _)); exact S3.out) hb); have N4 := Aside0.mk (blk_below (g := g2) (o := .cells #[.bool false, .bool false, .int .i64 0, .int .i64 0, .int .i64 0] 28 (0, 0)) (by (with_reducible repeat (first | refine blk_drewN ?_ _ | refine blk_drew ?_ | refine blk_alloc ?_ _)); exact N3.out) hb); have y2 := Aside0.mk (blk_lt N4.out); have HB4 := Aside0.mk (below_step (w := w) (by repeat (first | (with_reducible first | exact HB3.out | apply below_alloc | apply pw_below_drewN | apply below_drew1) | exact HB3.out)) hb); clear hb; clear r3_0 r3_1 r3_2 s3_0 s3_1 s3_2 s3_3 s3_4))
  refine (wpIn_wide (n := 0)).1 ?_
  refine wpIn_region_rg 11 (by kernel_rfl) (by kernel_rfl) (Keeps w1.drew) [8, 9] (BoxJ w1.heap.size (.cells #[.bool false, .bool false, .int .i64 0, .int .i64 0, .int .i64 0] 28 (0, 0)) (.cells #[.bool x1, .bool x2, .int .i64 x3, .int .i64 x4, .int .i64 x5] 28 (0, 0))) (tellOf [some (.agg #[.bool false, .bool false, .int .i64 st, .int .i64 cl, .int .i64 bk]), some (.iface 162 (.agg #[.bool false, .bool false, .int .i64 st, .int .i64 cl, .int .i64 bk])), some (.agg #[.int .i64 L, .int .i64 C, .int .i64 B]), some (.bool t), some (.tuple #[(.agg #[.bool x1, .bool x2, .int .i64 x3, .int .i64 x4, .int .i64 x5]), .int .i64 x6]), some (.tuple #[(.agg #[.bool x1, .bool x2, .int .i64 x3, .int .i64 x4, .int .i64 x5]), .int .i64 x6]), some (.agg #[.bool x1, .bool x2, .int .i64 x3, .int .i64 x4, .int .i64 x5]), some (.int .i64 x6), none, none, some (.int .i64 x6)]) (by decide) (Keeps.refl _) (fun us => BoxJ.start _ _ _) ?_
  simp only [List.take_succ_cons, List.take_zero, List.drop_succ_cons, List.drop_zero]
  have R5 : (w1.drew).heap[g0]? = some (.cells #[.int .i64 L, .int .i64 C, .int .i64 B] 23 (0, 0)) := R4.out
  have S5 : (w1.drew).heap[g1]? = some (.cells #[.bool false, .bool false, .int .i64 st, .int .i64 cl, .int .i64 bk] 28 (0, 0)) := S4.out
  refine rg_val _ rfl rfl (fun _ _ h k => h.trans k) BoxJ.keeps (fun Ls us V hV hu hb hJ => opRG_run (fun _ => trivial) (by rfl) ?_) ?_
  · clear hu hb hJ
    have s_0 : V.cell? ⟨g1, 0, none⟩ = some (.bool false) := (blk_cell (blk_below S5 hV) 0).trans rfl
    have s_1 : V.cell? ⟨g1, 1, none⟩ = some (.bool false) := (blk_cell (blk_below S5 hV) 1).trans rfl
    have s_2 : V.cell? ⟨g1, 2, none⟩ = some (.int .i64 st) := (blk_cell (blk_below S5 hV) 2).trans rfl
    have s_3 : V.cell? ⟨g1, 3, none⟩ = some (.int .i64 cl) := (blk_cell (blk_below S5 hV) 3).trans rfl
    have s_4 : V.cell? ⟨g1, 4, none⟩ = some (.int .i64 bk) := (blk_cell (blk_below S5 hV) 4).trans rfl
    go_simp
    exact Keeps.refl _
  refine rg_val _ rfl rfl (fun _ _ h k => h.trans k) BoxJ.keeps (fun Ls us V hV hu hb hJ => opRG_run (fun _ => trivial) (by rfl) ?_) ?_
  · clear hu hb hJ
    go_simp
    refine ⟨by first | rfl | (intro h; cases h), callsIn_wide.2 ((of_in _ _ _ _).mono fun e w2 ⟨he, hb⟩ => ⟨_, he, rfl, hb⟩)⟩
  refine rg_val _ rfl rfl (fun _ _ h k => h.trans k) BoxJ.keeps (fun Ls us V hV hu hb hJ => opRG_run (fun _ => trivial) (by rfl) ?_) ?_
  · clear hu hb hJ
    have r_0 : V.cell? ⟨g0, 0, none⟩ = some (.int .i64 L) := (blk_cell (blk_below R5 hV) 0).trans rfl
    have r_1 : V.cell? ⟨g0, 1, none⟩ = some (.int .i64 C) := (blk_cell (blk_below R5 hV) 1).trans rfl
    have r_2 : V.cell? ⟨g0, 2, none⟩ = some (.int .i64 B) := (blk_cell (blk_below R5 hV) 2).trans rfl
    go_simp
    exact Keeps.refl _
  refine rg_val _ rfl rfl (fun _ _ h k => h.trans k) BoxJ.keeps (fun Ls us V hV hu hb hJ => opRG_run (fun _ => trivial) (by rfl) ?_) ?_
  · clear hu hb hJ
    go_simp
    exact Keeps.refl _
  refine rg_val _ rfl rfl (fun _ _ h k => h.trans k) BoxJ.keeps (fun Ls us V hV hu hb hJ => opRG_run (fun _ => trivial) (by rfl) ?_) ?_
  · clear hu hb hJ
    go_simp
    refine ⟨by first | rfl | (intro h; cases h), callsIn_wide.2 ((latch_in_next.calls _ _ _ _ _ _ _ _ _ _ _ _ _ _ _ _ HX.out).mono fun e w2 ⟨he, hb⟩ => ⟨_, he, rfl, hb⟩)⟩
  refine rg_val _ rfl rfl (fun _ _ h k => h.trans k) BoxJ.keeps (fun Ls us V hV hu hb hJ => opRG_run (fun _ => trivial) (by rfl) ?_) ?_
  · clear hu hb hJ
    go_simp
    exact Keeps.refl _
  refine rg_val _ rfl rfl (fun _ _ h k => h.trans k) BoxJ.keeps (fun Ls us V hV hu hb hJ => opRG_run (fun _ => trivial) (by rfl) ?_) ?_
  · clear hu hb hJ
    go_simp
    exact Keeps.refl _
  refine rg_val _ rfl rfl (fun _ _ h k => h.trans k) BoxJ.keeps (fun Ls us V hV hu hb hJ => opRG_run (fun _ => trivial) (by rfl) ?_) ?_
  · clear hu hb hJ
    go_simp
    exact Keeps.refl _
  refine rg_rel rfl (fun Ls us V hV hu hL hb hJ => opRG.mono (N := fun v w' => v = .pointer (some ⟨V.heap.size, 0, none⟩) ∧ w' = V.alloc (.cells #[.bool false, .bool false, .int .i64 0, .int .i64 0, .int .i64 0] 28 (0, 0))) ?_ (opRG_run (fun _ => trivial) (by rfl) ?_)) (fun p => ?_)
  · rintro v w' ⟨rfl, rfl⟩
    exact ⟨hV.trans ((Below.refl _ V).alloc (Nat.le_refl _) _), BoxJ.made hJ hL rfl hV.size (blk_new _ _)⟩
  · clear hu hb hJ
    go_simp
  refine rg_rel rfl (fun Ls us V hV hu hL hb hJ => ?_) (fun q => ?_)
  · obtain ⟨g, e, hl, hg⟩ := BoxJ.get hJ (hb 8 (by kernel_rfl))
    have e' : p = .pointer (some ⟨g, 0, none⟩) := (hu 8 (by decide)).symm.trans e
    subst e'
    rw [if_neg (by rw [hL]; simp)] at hg
    have h8 : Ls 8 = true := hb 8 (by kernel_rfl)
    clear hb
    refine opRG.mono (N := fun v w' => w' = (World.setCell (World.setCell (World.setCell (World.setCell (World.setCell V ⟨g, 0, none⟩ (.bool x1)) ⟨g, 1, none⟩ (.bool x2)) ⟨g, 2, none⟩ (.int .i64 x3)) ⟨g, 3, none⟩ (.int .i64 x4)) ⟨g, 4, none⟩ (.int .i64 x5))) ?_ (opRG_run (fun _ => trivial) (by rfl) ?_)
    · rintro v w' rfl
      refine ⟨?_, ?_⟩
      · exact (((((show Below w1.heap.size w1.drew V from hV).setCell (p := ⟨g, 0, none⟩) hl _).setCell (p := ⟨g, 1, none⟩) hl _).setCell (p := ⟨g, 2, none⟩) hl _).setCell (p := ⟨g, 3, none⟩) hl _).setCell (p := ⟨g, 4, none⟩) hl _
      · have hF := BoxJ.filled (o0 := (.cells #[.bool false, .bool false, .int .i64 0, .int .i64 0, .int .i64 0] 28 (0, 0))) (q := v) hl (blk_put (cs := #[.bool x1, .bool x2, .int .i64 x3, .int .i64 x4, .int .i64 0]) (cs' := #[.bool x1, .bool x2, .int .i64 x3, .int .i64 x4, .int .i64 x5]) (blk_put (cs := #[.bool x1, .bool x2, .int .i64 x3, .int .i64 0, .int .i64 0]) (cs' := #[.bool x1, .bool x2, .int .i64 x3, .int .i64 x4, .int .i64 0]) (blk_put (cs := #[.bool x1, .bool x2, .int .i64 0, .int .i64 0, .int .i64 0]) (cs' := #[.bool x1, .bool x2, .int .i64 x3, .int .i64 0, .int .i64 0]) (blk_put (cs := #[.bool x1, .bool false, .int .i64 0, .int .i64 0, .int .i64 0]) (cs' := #[.bool x1, .bool x2, .int .i64 0, .int .i64 0, .int .i64 0]) (blk_put (cs := #[.bool false, .bool false, .int .i64 0, .int .i64 0, .int .i64 0]) (cs' := #[.bool x1, .bool false, .int .i64 0, .int .i64 0, .int .i64 0]) hg 0 _ rfl) 1 _ rfl) 2 _ rfl) 3 _ rfl) 4 _ rfl)
        have e8 : Ls 8 = true := h8
        show BoxJ _ _ _ [upd Ls 9 true 8, upd Ls 9 true 9] [upd us 9 v 8, upd us 9 v 9] _
        rw [upd_same, upd_same, upd_ne _ _ (by decide), upd_ne _ _ (by decide), e8, e]
        exact hF
    · have a_0 : V.cell? ⟨g, 0, none⟩ = some (.bool false) := (blk_cell hg 0).trans rfl; have fa_0 : V.frozen? ⟨g, 0, none⟩ = false := blk_frozen hg 0; have a_1 : V.cell? ⟨g, 1, none⟩ = some (.bool false) := (blk_cell hg 1).trans rfl; have fa_1 : V.frozen? ⟨g, 1, none⟩ = false := blk_frozen hg 1; have a_2 : V.cell? ⟨g, 2, none⟩ = some (.int .i64 0) := (blk_cell hg 2).trans rfl; have fa_2 : V.frozen? ⟨g, 2, none⟩ = false := blk_frozen hg 2; have a_3 : V.cell? ⟨g, 3, none⟩ = some (.int .i64 0) := (blk_cell hg 3).trans rfl; have fa_3 : V.frozen? ⟨g, 3, none⟩ = false := blk_frozen hg 3; have a_4 : V.cell? ⟨g, 4, none⟩ = some (.int .i64 0) := (blk_cell hg 4).trans rfl; have fa_4 : V.frozen? ⟨g, 4, none⟩ = false := blk_frozen hg 4
      go_simp
  refine rg_val _ rfl rfl (fun _ _ h k => h.trans k) BoxJ.keeps (fun Ls us V hV hu hb hJ => opRG_run (fun _ => trivial) (by rfl) ?_) ?_
  · clear hu hb hJ
    go_simp
    exact Keeps.refl _
  refine rgWalk.nil fun us V hV hu hJ => ?_
  obtain ⟨b, e, hl, hb⟩ := BoxJ.get hJ rfl
  have e' : p = .pointer (some ⟨b, 0, none⟩) := (hu 8 (by decide)).symm.trans e
  subst e'
  rw [if_pos rfl] at hb
  clear hJ hu
  have N5 := Aside0.mk (show V.heap[g2]? = some (.cells #[.bool false, .bool false, .int .i64 0, .int .i64 0, .int .i64 0] 28 (0, 0)) from blk_below (w := w1.drew) N4.out hV)
  have HB5 := Aside0.mk (below_step (w := w) HB4.out (show Below w1.heap.size w1 V from ⟨hV.os, hV.tape, hV.output, hV.size, hV.block⟩))
  have GA : g2 < b := Nat.lt_of_lt_of_le y2.out hl
  have HA := Aside0.mk hb
  clear hb
  have a_0 : V.cell? ⟨b, 0, none⟩ = some (.bool x1) := (blk_cell HA.out 0).trans rfl; have a_1 : V.cell? ⟨b, 1, none⟩ = some (.bool x2) := (blk_cell HA.out 1).trans rfl; have a_2 : V.cell? ⟨b, 2, none⟩ = some (.int .i64 x3) := (blk_cell HA.out 2).trans rfl; have a_3 : V.cell? ⟨b, 3, none⟩ = some (.int .i64 x4) := (blk_cell HA.out 3).trans rfl; have a_4 : V.cell? ⟨b, 4, none⟩ = some (.int .i64 x5) := (blk_cell HA.out 4).trans rfl
  have n_0 : V.cell? ⟨g2, 0, none⟩ = some (.bool false) := (blk_cell N5.out 0).trans rfl; have fn_0 : V.frozen? ⟨g2, 0, none⟩ = false := blk_frozen N5.out 0; have n_1 : V.cell? ⟨g2, 1, none⟩ = some (.bool false) := (blk_cell N5.out 1).trans rfl; have fn_1 : V.frozen? ⟨g2, 1, none⟩ = false := blk_frozen N5.out 1; have n_2 : V.cell? ⟨g2, 2, none⟩ = some (.int .i64 0) := (blk_cell N5.out 2).trans rfl; have fn_2 : V.frozen? ⟨g2, 2, none⟩ = false := blk_frozen N5.out 2; have n_3 : V.cell? ⟨g2, 3, none⟩ = some (.int .i64 0) := (blk_cell N5.out 3).trans rfl; have fn_3 : V.frozen? ⟨g2, 3, none⟩ = false := blk_frozen N5.out 3; have n_4 : V.cell? ⟨g2, 4, none⟩ = some (.int .i64 0) := (blk_cell N5.out 4).trans rfl; have fn_4 : V.frozen? ⟨g2, 4, none⟩ = false := blk_frozen N5.out 4
  have hne := Nat.ne_of_lt GA
  gi_wp2
  go_wp2
  refine bodyPost_ret (results_ctt rfl _ _ g2 28 #[.bool x1, .bool x2, .int .i64 x3, .int .i64 x4, .int .i64 x5] (0, 0) _ rfl (by (with_reducible repeat (first | refine blk_drewN ?_ _ | refine blk_drew ?_ | refine blk_alloc ?_ _)); refine blk_put (cs := #[.bool x1, .bool x2, .int .i64 x3, .int .i64 x4, .int .i64 0]) ?_ 4 _ rfl; (with_reducible repeat (first | refine blk_drewN ?_ _ | refine blk_drew ?_ | refine blk_alloc ?_ _)); refine blk_put (cs := #[.bool x1, .bool x2, .int .i64 x3, .int .i64 0, .int .i64 0]) ?_ 3 _ rfl; (with_reducible repeat (first | refine blk_drewN ?_ _ | refine blk_drew ?_ | refine blk_alloc ?_ _)); refine blk_put (cs := #[.bool x1, .bool x2, .int .i64 0, .int .i64 0, .int .i64 0]) ?_ 2 _ rfl; (with_reducible repeat (first | refine blk_drewN ?_ _ | refine blk_drew ?_ | refine blk_alloc ?_ _)); refine blk_put (cs := #[.bool x1, .bool false, .int .i64 0, .int .i64 0, .int .i64 0]) ?_ 1 _ rfl; (with_reducible repeat (first | refine blk_drewN ?_ _ | refine blk_drew ?_ | refine blk_alloc ?_ _)); refine blk_put (cs := #[.bool false, .bool false, .int .i64 0, .int .i64 0, .int .i64 0]) ?_ 0 _ rfl; (with_reducible repeat (first | refine blk_drewN ?_ _ | refine blk_drew ?_ | refine blk_alloc ?_ _)); exact N5.out) Try.underlying28 rfl (by kernel_rfl)) rfl ?_
  exact ⟨rfl, by repeat (first | exact HB5.out | (with_reducible apply below_alloc) | refine below_set ?_ Gg2.out)⟩
set_option maxRecDepth 100000 in
set_option maxHeartbeats 8000000 in
theorem next_out (L C B st cl bk : Int) (t : Bool) (x1 x2 : Bool) (x3 x4 x5 x6 : Int) (w : World) (h : latch_Fine.f L C B true true st cl bk = some true) (hx : latch_out_next.f true true st cl bk L C B t = some (x1, x2, x3, x4, x5, x6)) :
    Calls Try.prog 68 #[.agg #[.int .i64 L, .int .i64 C, .int .i64 B], .agg #[.bool true, .bool true, .int .i64 st, .int .i64 cl, .int .i64 bk], .bool t] w fun e w' => e = .returned (.tuple #[.agg #[.bool x1, .bool x2, .int .i64 x3, .int .i64 x4, .int .i64 x5], .int .i64 x6, .int .i64 0]) ∧ Below w.heap.size w w' := by
  have hu23 := Try.underlying23
  have hu28 := Try.underlying28
  have H := Aside0.mk h
  clear h
  have HX := Aside0.mk hx
  clear hx
  go_enter Try.func68, Try.ntmps68
  go_wp2_with (first
    | ((with_reducible refine gate_dst (N := 3) rfl ?_); refine box_event ?hg (N := 3) ?hd (cs := #[.int .i64 L, .int .i64 C, .int .i64 B]) (t := 23) ?hr ?_; (case hd => rfl); (case hg => rfl); (case hr => first | (go_simp; done) | (go_simp; rfl)); intro g0 hg u1 hbox hb; have HB1 := Aside0.mk (below_step (w := w) (by repeat (first | (with_reducible first | exact Below.refl _ _ | apply below_alloc | apply pw_below_drewN | apply below_drew1) | exact Below.refl _ _)) hb); have R1 := Aside0.mk hbox; have Gg0 := Aside0.mk (by rw [hg]; exact below_size (by repeat (first | (with_reducible first | exact Below.refl _ _ | apply below_alloc | apply pw_below_drewN | apply below_drew1) | exact Below.refl _ _)) : w.heap.size ≤ g0); clear hb hbox hg)
    | ((with_reducible refine gate_dst (N := 4) rfl ?_); refine box_event ?hg (N := 4) ?hd (cs := #[.bool true, .bool true, .int .i64 st, .int .i64 cl, .int .i64 bk]) (t := 28) ?hr ?_; (case hd => rfl); (case hg => rfl); (case hr => first | (go_simp; done) | (go_simp; rfl)); intro g1 hg u2 hbox hb; have R2 := Aside0.mk (blk_below (g := g0) (o := .cells #[.int .i64 L, .int .i64 C, .int .i64 B] 23 (0, 0)) (by (with_reducible repeat (first | refine blk_drewN ?_ _ | refine blk_drew ?_ | refine blk_alloc ?_ _)); exact R1.out) hb); have lt_g0_g1 := Aside0.mk (by rw [hg]; exact blk_lt (g := g0) (o := .cells #[.int .i64 L, .int .i64 C, .int .i64 B] 23 (0, 0)) (by (with_reducible repeat (first | refine blk_drewN ?_ _ | refine blk_drew ?_ | refine blk_alloc ?_ _)); exact R1.out) : g0 < g1); have HB2 := Aside0.mk (below_step (w := w) (by repeat (first | (with_reducible first | exact HB1.out | apply below_alloc | apply pw_below_drewN | apply below_drew1) | exact HB1.out)) hb); have S2 := Aside0.mk hbox; have Gg1 := Aside0.mk (by rw [hg]; exact below_size (by repeat (first | (with_reducible first | exact HB1.out | apply below_alloc | apply pw_below_drewN | apply below_drew1) | exact HB1.out)) : w.heap.size ≤ g1); clear hb hbox hg)
    | ((with_reducible refine gate_dst (N := 6) rfl ?_); refine box_event ?hg (N := 6) ?hd (cs := #[.bool false, .bool false, .int .i64 0, .int .i64 0, .int .i64 0]) (t := 28) ?hr ?_; (case hd => rfl); (case hg => rfl); (case hr => first | (go_simp; done) | (go_simp; rfl)); intro g2 hg u3 hbox hb; have R3 := Aside0.mk (blk_below (g := g0) (o := .cells #[.int .i64 L, .int .i64 C, .int .i64 B] 23 (0, 0)) (by (with_reducible repeat (first | refine blk_drewN ?_ _ | refine blk_drew ?_ | refine blk_alloc ?_ _)); exact R2.out) hb); have lt_g0_g2 := Aside0.mk (by rw [hg]; exact blk_lt (g := g0) (o := .cells #[.int .i64 L, .int .i64 C, .int .i64 B] 23 (0, 0)) (by (with_reducible repeat (first | refine blk_drewN ?_ _ | refine blk_drew ?_ | refine blk_alloc ?_ _)); exact R2.out) : g0 < g2); have S3 := Aside0.mk (blk_below (g := g1) (o := .cells #[.bool true, .bool true, .int .i64 st, .int .i64 cl, .int .i64 bk] 28 (0, 0)) (by (with_reducible repeat (first | refine blk_drewN ?_ _ | refine blk_drew ?_ | refine blk_alloc ?_ _)); exact S2.out) hb); have lt_g1_g2 := Aside0.mk (by rw [hg]; exact blk_lt (g := g1) (o := .cells #[.bool true, .bool true, .int .i64 st, .int .i64 cl, .int .i64 bk] 28 (0, 0)) (by (with_reducible repeat (first | refine blk_drewN ?_ _ | refine blk_drew ?_ | refine blk_alloc ?_ _)); exact S2.out) : g1 < g2); have HB3 := Aside0.mk (below_step (w := w) (by repeat (first | (with_reducible first | exact HB2.out | apply below_alloc | apply pw_below_drewN | apply below_drew1) | exact HB2.out)) hb); have N3 := Aside0.mk hbox; have Gg2 := Aside0.mk (by rw [hg]; exact below_size (by repeat (first | (with_reducible first | exact HB2.out | apply below_alloc | apply pw_below_drewN | apply below_drew1) | exact HB2.out)) : w.heap.size ≤ g2); clear hb hbox hg; have r3_0 : World.cell? _ ⟨g0, 0, none⟩ = some (.int .i64 L) := (blk_cell R3.out 0).trans rfl; have r3_1 : World.cell? _ ⟨g0, 1, none⟩ = some (.int .i64 C) := (blk_cell R3.out 1).trans rfl; have r3_2 : World.cell? _ ⟨g0, 2, none⟩ = some (.int .i64 B) := (blk_cell R3.out 2).trans rfl; have s3_0 : World.cell? _ ⟨g1, 0, none⟩ = some (.bool true) := (blk_cell S3.out 0).trans rfl; have s3_1 : World.cell? _ ⟨g1, 1, none⟩ = some (.bool true) := (blk_cell S3.out 1).trans rfl; have s3_2 : World.cell? _ ⟨g1, 2, none⟩ = some (.int .i64 st) := (blk_cell S3.out 2).trans rfl; have s3_3 : World.cell? _ ⟨g1, 3, none⟩ = some (.int .i64 cl) := (blk_cell S3.out 3).trans rfl; have s3_4 : World.cell? _ ⟨g1, 4, none⟩ = some (.int .i64 bk) := (blk_cell S3.out 4).trans rfl)
    | (go_at_call 69; refine (latch_Fine.calls _ _ _ _ _ _ _ _ _ _ H.out).mono ?_; rintro e w1 ⟨rfl, hb⟩; have R4 := Aside0.mk (blk_below (g := g0) (o := .cells #[.int .i64 L, .int .i64 C, .int .i64 B] 23 (0, 0)) (by (with_reducible repeat (first | refine blk_drewN ?_ _ | refine blk_drew ?_ | refine blk_alloc ?_ _)); exact R3.out) hb); have S4 := Aside0.mk (blk_below (g := g1) (o := .cells #[.bool true, .bool true, .int .i64 st, .int .i64 cl, .int .i64 bk] 28 (0, 0)) (by (with_reducible repeat (first | refine blk_drewN ?_ _ | refine blk_drew ?_ | refine blk_alloc ?_ _)); exact S3.out) hb); have N4 := Aside0.mk (blk_below (g := g2) (o := .cells #[.bool false, .bool false, .int .i64 0, .int .i64 0, .int .i64 0] 28 (0, 0)) (by (with_reducible repeat (first | refine blk_drewN ?_ _ | refine blk_drew ?_ | refine blk_alloc ?_ _)); exact N3.out) hb); have y2 := Aside0.mk (blk_lt N4.out); have HB4 := Aside0.mk (below_step (w := w) (by repeat (first | (with_reducible first | exact HB3.out | apply below_alloc | apply pw_below_drewN | apply below_drew1) | exact HB3.out)) hb); clear hb; clear r3_0 r3_1 r3_2 s3_0 s3_1 s3_2 s3_3 s3_4))
  refine (wpIn_wide (n := 0)).1 ?_
  refine wpIn_region_rg 11 (by kernel_rfl) (by kernel_rfl) (Keeps w1.drew) [8, 9] (BoxJ w1.heap.size (.cells #[.bool false, .bool false, .int .i64 0, .int .i64 0, .int .i64 0] 28 (0, 0)) (.cells #[.bool x1, .bool x2, .int .i64 x3, .int .i64 x4, .int .i64 x5] 28 (0, 0))) (tellOf [some (.agg #[.bool true, .bool true, .int .i64 st, .int .i64 cl, .int .i64 bk]), some (.iface 160 (.agg #[.bool true, .bool true, .int .i64 st, .int .i64 cl, .int .i64 bk])), some (.agg #[.int .i64 L, .int .i64 C, .int .i64 B]), some (.bool t), some (.tuple #[(.agg #[.bool x1, .bool x2, .int .i64 x3, .int .i64 x4, .int .i64 x5]), .int .i64 x6]), some (.tuple #[(.agg #[.bool x1, .bool x2, .int .i64 x3, .int .i64 x4, .int .i64 x5]), .int .i64 x6]), some (.agg #[.bool x1, .bool x2, .int .i64 x3, .int .i64 x4, .int .i64 x5]), some (.int .i64 x6), none, none, some (.int .i64 x6)]) (by decide) (Keeps.refl _) (fun us => BoxJ.start _ _ _) ?_
  simp only [List.take_succ_cons, List.take_zero, List.drop_succ_cons, List.drop_zero]
  have R5 : (w1.drew).heap[g0]? = some (.cells #[.int .i64 L, .int .i64 C, .int .i64 B] 23 (0, 0)) := R4.out
  have S5 : (w1.drew).heap[g1]? = some (.cells #[.bool true, .bool true, .int .i64 st, .int .i64 cl, .int .i64 bk] 28 (0, 0)) := S4.out
  refine rg_val _ rfl rfl (fun _ _ h k => h.trans k) BoxJ.keeps (fun Ls us V hV hu hb hJ => opRG_run (fun _ => trivial) (by rfl) ?_) ?_
  · clear hu hb hJ
    have s_0 : V.cell? ⟨g1, 0, none⟩ = some (.bool true) := (blk_cell (blk_below S5 hV) 0).trans rfl
    have s_1 : V.cell? ⟨g1, 1, none⟩ = some (.bool true) := (blk_cell (blk_below S5 hV) 1).trans rfl
    have s_2 : V.cell? ⟨g1, 2, none⟩ = some (.int .i64 st) := (blk_cell (blk_below S5 hV) 2).trans rfl
    have s_3 : V.cell? ⟨g1, 3, none⟩ = some (.int .i64 cl) := (blk_cell (blk_below S5 hV) 3).trans rfl
    have s_4 : V.cell? ⟨g1, 4, none⟩ = some (.int .i64 bk) := (blk_cell (blk_below S5 hV) 4).trans rfl
    go_simp
    exact Keeps.refl _
  refine rg_val _ rfl rfl (fun _ _ h k => h.trans k) BoxJ.keeps (fun Ls us V hV hu hb hJ => opRG_run (fun _ => trivial) (by rfl) ?_) ?_
  · clear hu hb hJ
    go_simp
    refine ⟨by first | rfl | (intro h; cases h), callsIn_wide.2 ((of_out _ _ _ _).mono fun e w2 ⟨he, hb⟩ => ⟨_, he, rfl, hb⟩)⟩
  refine rg_val _ rfl rfl (fun _ _ h k => h.trans k) BoxJ.keeps (fun Ls us V hV hu hb hJ => opRG_run (fun _ => trivial) (by rfl) ?_) ?_
  · clear hu hb hJ
    have r_0 : V.cell? ⟨g0, 0, none⟩ = some (.int .i64 L) := (blk_cell (blk_below R5 hV) 0).trans rfl
    have r_1 : V.cell? ⟨g0, 1, none⟩ = some (.int .i64 C) := (blk_cell (blk_below R5 hV) 1).trans rfl
    have r_2 : V.cell? ⟨g0, 2, none⟩ = some (.int .i64 B) := (blk_cell (blk_below R5 hV) 2).trans rfl
    go_simp
    exact Keeps.refl _
  refine rg_val _ rfl rfl (fun _ _ h k => h.trans k) BoxJ.keeps (fun Ls us V hV hu hb hJ => opRG_run (fun _ => trivial) (by rfl) ?_) ?_
  · clear hu hb hJ
    go_simp
    exact Keeps.refl _
  refine rg_val _ rfl rfl (fun _ _ h k => h.trans k) BoxJ.keeps (fun Ls us V hV hu hb hJ => opRG_run (fun _ => trivial) (by rfl) ?_) ?_
  · clear hu hb hJ
    go_simp
    refine ⟨by first | rfl | (intro h; cases h), callsIn_wide.2 ((latch_out_next.calls _ _ _ _ _ _ _ _ _ _ _ _ _ _ _ _ HX.out).mono fun e w2 ⟨he, hb⟩ => ⟨_, he, rfl, hb⟩)⟩
  refine rg_val _ rfl rfl (fun _ _ h k => h.trans k) BoxJ.keeps (fun Ls us V hV hu hb hJ => opRG_run (fun _ => trivial) (by rfl) ?_) ?_
  · clear hu hb hJ
    go_simp
    exact Keeps.refl _
  refine rg_val _ rfl rfl (fun _ _ h k => h.trans k) BoxJ.keeps (fun Ls us V hV hu hb hJ => opRG_run (fun _ => trivial) (by rfl) ?_) ?_
  · clear hu hb hJ
    go_simp
    exact Keeps.refl _
  refine rg_val _ rfl rfl (fun _ _ h k => h.trans k) BoxJ.keeps (fun Ls us V hV hu hb hJ => opRG_run (fun _ => trivial) (by rfl) ?_) ?_
  · clear hu hb hJ
    go_simp
    exact Keeps.refl _
  refine rg_rel rfl (fun Ls us V hV hu hL hb hJ => opRG.mono (N := fun v w' => v = .pointer (some ⟨V.heap.size, 0, none⟩) ∧ w' = V.alloc (.cells #[.bool false, .bool false, .int .i64 0, .int .i64 0, .int .i64 0] 28 (0, 0))) ?_ (opRG_run (fun _ => trivial) (by rfl) ?_)) (fun p => ?_)
  · rintro v w' ⟨rfl, rfl⟩
    exact ⟨hV.trans ((Below.refl _ V).alloc (Nat.le_refl _) _), BoxJ.made hJ hL rfl hV.size (blk_new _ _)⟩
  · clear hu hb hJ
    go_simp
  refine rg_rel rfl (fun Ls us V hV hu hL hb hJ => ?_) (fun q => ?_)
  · obtain ⟨g, e, hl, hg⟩ := BoxJ.get hJ (hb 8 (by kernel_rfl))
    have e' : p = .pointer (some ⟨g, 0, none⟩) := (hu 8 (by decide)).symm.trans e
    subst e'
    rw [if_neg (by rw [hL]; simp)] at hg
    have h8 : Ls 8 = true := hb 8 (by kernel_rfl)
    clear hb
    refine opRG.mono (N := fun v w' => w' = (World.setCell (World.setCell (World.setCell (World.setCell (World.setCell V ⟨g, 0, none⟩ (.bool x1)) ⟨g, 1, none⟩ (.bool x2)) ⟨g, 2, none⟩ (.int .i64 x3)) ⟨g, 3, none⟩ (.int .i64 x4)) ⟨g, 4, none⟩ (.int .i64 x5))) ?_ (opRG_run (fun _ => trivial) (by rfl) ?_)
    · rintro v w' rfl
      refine ⟨?_, ?_⟩
      · exact (((((show Below w1.heap.size w1.drew V from hV).setCell (p := ⟨g, 0, none⟩) hl _).setCell (p := ⟨g, 1, none⟩) hl _).setCell (p := ⟨g, 2, none⟩) hl _).setCell (p := ⟨g, 3, none⟩) hl _).setCell (p := ⟨g, 4, none⟩) hl _
      · have hF := BoxJ.filled (o0 := (.cells #[.bool false, .bool false, .int .i64 0, .int .i64 0, .int .i64 0] 28 (0, 0))) (q := v) hl (blk_put (cs := #[.bool x1, .bool x2, .int .i64 x3, .int .i64 x4, .int .i64 0]) (cs' := #[.bool x1, .bool x2, .int .i64 x3, .int .i64 x4, .int .i64 x5]) (blk_put (cs := #[.bool x1, .bool x2, .int .i64 x3, .int .i64 0, .int .i64 0]) (cs' := #[.bool x1, .bool x2, .int .i64 x3, .int .i64 x4, .int .i64 0]) (blk_put (cs := #[.bool x1, .bool x2, .int .i64 0, .int .i64 0, .int .i64 0]) (cs' := #[.bool x1, .bool x2, .int .i64 x3, .int .i64 0, .int .i64 0]) (blk_put (cs := #[.bool x1, .bool false, .int .i64 0, .int .i64 0, .int .i64 0]) (cs' := #[.bool x1, .bool x2, .int .i64 0, .int .i64 0, .int .i64 0]) (blk_put (cs := #[.bool false, .bool false, .int .i64 0, .int .i64 0, .int .i64 0]) (cs' := #[.bool x1, .bool false, .int .i64 0, .int .i64 0, .int .i64 0]) hg 0 _ rfl) 1 _ rfl) 2 _ rfl) 3 _ rfl) 4 _ rfl)
        have e8 : Ls 8 = true := h8
        show BoxJ _ _ _ [upd Ls 9 true 8, upd Ls 9 true 9] [upd us 9 v 8, upd us 9 v 9] _
        rw [upd_same, upd_same, upd_ne _ _ (by decide), upd_ne _ _ (by decide), e8, e]
        exact hF
    · have a_0 : V.cell? ⟨g, 0, none⟩ = some (.bool false) := (blk_cell hg 0).trans rfl; have fa_0 : V.frozen? ⟨g, 0, none⟩ = false := blk_frozen hg 0; have a_1 : V.cell? ⟨g, 1, none⟩ = some (.bool false) := (blk_cell hg 1).trans rfl; have fa_1 : V.frozen? ⟨g, 1, none⟩ = false := blk_frozen hg 1; have a_2 : V.cell? ⟨g, 2, none⟩ = some (.int .i64 0) := (blk_cell hg 2).trans rfl; have fa_2 : V.frozen? ⟨g, 2, none⟩ = false := blk_frozen hg 2; have a_3 : V.cell? ⟨g, 3, none⟩ = some (.int .i64 0) := (blk_cell hg 3).trans rfl; have fa_3 : V.frozen? ⟨g, 3, none⟩ = false := blk_frozen hg 3; have a_4 : V.cell? ⟨g, 4, none⟩ = some (.int .i64 0) := (blk_cell hg 4).trans rfl; have fa_4 : V.frozen? ⟨g, 4, none⟩ = false := blk_frozen hg 4
      go_simp
  refine rg_val _ rfl rfl (fun _ _ h k => h.trans k) BoxJ.keeps (fun Ls us V hV hu hb hJ => opRG_run (fun _ => trivial) (by rfl) ?_) ?_
  · clear hu hb hJ
    go_simp
    exact Keeps.refl _
  refine rgWalk.nil fun us V hV hu hJ => ?_
  obtain ⟨b, e, hl, hb⟩ := BoxJ.get hJ rfl
  have e' : p = .pointer (some ⟨b, 0, none⟩) := (hu 8 (by decide)).symm.trans e
  subst e'
  rw [if_pos rfl] at hb
  clear hJ hu
  have N5 := Aside0.mk (show V.heap[g2]? = some (.cells #[.bool false, .bool false, .int .i64 0, .int .i64 0, .int .i64 0] 28 (0, 0)) from blk_below (w := w1.drew) N4.out hV)
  have HB5 := Aside0.mk (below_step (w := w) HB4.out (show Below w1.heap.size w1 V from ⟨hV.os, hV.tape, hV.output, hV.size, hV.block⟩))
  have GA : g2 < b := Nat.lt_of_lt_of_le y2.out hl
  have HA := Aside0.mk hb
  clear hb
  have a_0 : V.cell? ⟨b, 0, none⟩ = some (.bool x1) := (blk_cell HA.out 0).trans rfl; have a_1 : V.cell? ⟨b, 1, none⟩ = some (.bool x2) := (blk_cell HA.out 1).trans rfl; have a_2 : V.cell? ⟨b, 2, none⟩ = some (.int .i64 x3) := (blk_cell HA.out 2).trans rfl; have a_3 : V.cell? ⟨b, 3, none⟩ = some (.int .i64 x4) := (blk_cell HA.out 3).trans rfl; have a_4 : V.cell? ⟨b, 4, none⟩ = some (.int .i64 x5) := (blk_cell HA.out 4).trans rfl
  have n_0 : V.cell? ⟨g2, 0, none⟩ = some (.bool false) := (blk_cell N5.out 0).trans rfl; have fn_0 : V.frozen? ⟨g2, 0, none⟩ = false := blk_frozen N5.out 0; have n_1 : V.cell? ⟨g2, 1, none⟩ = some (.bool false) := (blk_cell N5.out 1).trans rfl; have fn_1 : V.frozen? ⟨g2, 1, none⟩ = false := blk_frozen N5.out 1; have n_2 : V.cell? ⟨g2, 2, none⟩ = some (.int .i64 0) := (blk_cell N5.out 2).trans rfl; have fn_2 : V.frozen? ⟨g2, 2, none⟩ = false := blk_frozen N5.out 2; have n_3 : V.cell? ⟨g2, 3, none⟩ = some (.int .i64 0) := (blk_cell N5.out 3).trans rfl; have fn_3 : V.frozen? ⟨g2, 3, none⟩ = false := blk_frozen N5.out 3; have n_4 : V.cell? ⟨g2, 4, none⟩ = some (.int .i64 0) := (blk_cell N5.out 4).trans rfl; have fn_4 : V.frozen? ⟨g2, 4, none⟩ = false := blk_frozen N5.out 4
  have hne := Nat.ne_of_lt GA
  gi_wp2
  go_wp2
  refine bodyPost_ret (results_ctt rfl _ _ g2 28 #[.bool x1, .bool x2, .int .i64 x3, .int .i64 x4, .int .i64 x5] (0, 0) _ rfl (by (with_reducible repeat (first | refine blk_drewN ?_ _ | refine blk_drew ?_ | refine blk_alloc ?_ _)); refine blk_put (cs := #[.bool x1, .bool x2, .int .i64 x3, .int .i64 x4, .int .i64 0]) ?_ 4 _ rfl; (with_reducible repeat (first | refine blk_drewN ?_ _ | refine blk_drew ?_ | refine blk_alloc ?_ _)); refine blk_put (cs := #[.bool x1, .bool x2, .int .i64 x3, .int .i64 0, .int .i64 0]) ?_ 3 _ rfl; (with_reducible repeat (first | refine blk_drewN ?_ _ | refine blk_drew ?_ | refine blk_alloc ?_ _)); refine blk_put (cs := #[.bool x1, .bool x2, .int .i64 0, .int .i64 0, .int .i64 0]) ?_ 2 _ rfl; (with_reducible repeat (first | refine blk_drewN ?_ _ | refine blk_drew ?_ | refine blk_alloc ?_ _)); refine blk_put (cs := #[.bool x1, .bool false, .int .i64 0, .int .i64 0, .int .i64 0]) ?_ 1 _ rfl; (with_reducible repeat (first | refine blk_drewN ?_ _ | refine blk_drew ?_ | refine blk_alloc ?_ _)); refine blk_put (cs := #[.bool false, .bool false, .int .i64 0, .int .i64 0, .int .i64 0]) ?_ 0 _ rfl; (with_reducible repeat (first | refine blk_drewN ?_ _ | refine blk_drew ?_ | refine blk_alloc ?_ _)); exact N5.out) Try.underlying28 rfl (by kernel_rfl)) rfl ?_
  exact ⟨rfl, by repeat (first | exact HB5.out | (with_reducible apply below_alloc) | refine below_set ?_ Gg2.out)⟩
end Go.Proofs.Ytdhmefdnpiidbaa.Lat

/- latch.in.next, latch.Fine, latch.Next. -/
import Derived.Test.YtdhmefdnpiidbaaLatMx1
import Derived.Handy
import Derived.RegionTactic
import Derived.BigRegion
import Derived.Deep.RegionWith
namespace Go.Proofs.Ytdhmefdnpiidbaa.Lat
open Go.RowKit Go.Proofs.YtdhmefdnpiidbaaW.PrintWords Go.Proofs.YtdhmefdnpiidbaaW.PrintLast Go.Proofs.YtdhmefdnpiidbaaW.PrintMore
open Go.Proofs.Ytdhmefdnpiidbaa.Base Go.Proofs.Ytdhmefdnpiidbaa.LatM
set_option linter.unusedVariables false

theorem in_next_no (a b : Bool) (st cl bk L C B : Int) (w : World) :
    Calls Try.prog 152 #[.agg #[.bool a, .bool b, .int .i64 st, .int .i64 cl, .int .i64 bk], .agg #[.int .i64 L, .int .i64 C, .int .i64 B], .bool false] w fun e w' => e = .returned (.tuple #[.agg #[.bool a, .bool b, .int .i64 0, .int .i64 cl, .int .i64 bk], .int .i64 0]) ∧ Below w.heap.size w w' := by
  have hu23 := Try.underlying23
  have hu28 := Try.underlying28
  have hu162 := Try.underlying162
  go_enter Try.func152, Try.ntmps152
  go_wp2
  go_returns
  exact ⟨rfl, by repeat (first | exact Below.refl _ _ | apply below_alloc | apply pw_below_drewN | apply below_drew1)⟩
theorem in_next_few (a b : Bool) (st cl bk L C B : Int) (w : World) (h : wrap64 (st + 1) < L) :
    Calls Try.prog 152 #[.agg #[.bool a, .bool b, .int .i64 st, .int .i64 cl, .int .i64 bk], .agg #[.int .i64 L, .int .i64 C, .int .i64 B], .bool true] w fun e w' => e = .returned (.tuple #[.agg #[.bool a, .bool b, .int .i64 (wrap64 (st + 1)), .int .i64 cl, .int .i64 bk], .int .i64 0]) ∧ Below w.heap.size w w' := by
  have hu23 := Try.underlying23
  have hu28 := Try.underlying28
  have hu162 := Try.underlying162
  have hb := decide_eq_true h
  clear h
  go_enter Try.func152, Try.ntmps152
  go_wp2
  go_returns
  exact ⟨rfl, by repeat (first | exact Below.refl _ _ | apply below_alloc | apply pw_below_drewN | apply below_drew1)⟩
set_option maxRecDepth 100000 in
theorem in_next_out (a b : Bool) (st cl bk L C : Int) (w : World) (h : ¬ wrap64 (st + 1) < L) :
    Calls Try.prog 152 #[.agg #[.bool a, .bool b, .int .i64 st, .int .i64 cl, .int .i64 bk], .agg #[.int .i64 L, .int .i64 C, .int .i64 bk], .bool true] w fun e w' => e = .returned (.tuple #[.agg #[.bool true, .bool true, .int .i64 (wrap64 (st + 1)), .int .i64 cl, .int .i64 bk], .int .i64 3]) ∧ Below w.heap.size w w' := by
  have hu23 := Try.underlying23
  have hu28 := Try.underlying28
  have hu162 := Try.underlying162
  have hb := decide_eq_false h
  clear h
  go_enter Try.func152, Try.ntmps152
  go_wp2
  go_region
  go_wp2
  go_returns
  exact ⟨rfl, by repeat (first | exact Below.refl _ _ | apply below_alloc | apply pw_below_drewN | apply below_drew1)⟩
set_option maxRecDepth 100000 in
theorem in_next_latched (a b : Bool) (st cl bk L C B : Int) (w : World) (h : ¬ wrap64 (st + 1) < L) (hn : bk ≠ B) :
    Calls Try.prog 152 #[.agg #[.bool a, .bool b, .int .i64 st, .int .i64 cl, .int .i64 bk], .agg #[.int .i64 L, .int .i64 C, .int .i64 B], .bool true] w fun e w' => e = .returned (.tuple #[.agg #[.bool true, .bool false, .int .i64 (wrap64 (st + 1)), .int .i64 cl, .int .i64 bk], .int .i64 1]) ∧ Below w.heap.size w w' := by
  have hu23 := Try.underlying23
  have hu28 := Try.underlying28
  have hu162 := Try.underlying162
  have hb := decide_eq_false h
  have hc := beq_eq_false_iff_ne.2 hn
  clear h hn
  go_enter Try.func152, Try.ntmps152
  go_wp2
  go_region
  go_wp2
  go_returns
  exact ⟨rfl, by repeat (first | exact Below.refl _ _ | apply below_alloc | apply pw_below_drewN | apply below_drew1)⟩

theorem of_nil (st cl bk : Int) (w : World) :
    Calls Try.prog 95 #[.agg #[.bool false, .bool true, .int .i64 st, .int .i64 cl, .int .i64 bk]] w fun e w' => e = .returned .nilIface ∧ Below w.heap.size w w' := by
  have hu28 := Try.underlying28
  go_enter Try.func95, Try.ntmps95
  go_wp2
  go_returns
  exact ⟨rfl, by repeat (first | exact Below.refl _ _ | apply below_alloc | apply pw_below_drewN | apply below_drew1)⟩
theorem of_out (st cl bk : Int) (w : World) :
    Calls Try.prog 95 #[.agg #[.bool true, .bool true, .int .i64 st, .int .i64 cl, .int .i64 bk]] w fun e w' => e = .returned (.iface 160 (.agg #[.bool true, .bool true, .int .i64 st, .int .i64 cl, .int .i64 bk])) ∧ Below w.heap.size w w' := by
  have hu28 := Try.underlying28
  go_enter Try.func95, Try.ntmps95
  go_wp2
  go_returns
  exact ⟨rfl, by repeat (first | exact Below.refl _ _ | apply below_alloc | apply pw_below_drewN | apply below_drew1)⟩
theorem of_latched (st cl bk : Int) (w : World) :
    Calls Try.prog 95 #[.agg #[.bool true, .bool false, .int .i64 st, .int .i64 cl, .int .i64 bk]] w fun e w' => e = .returned (.iface 161 (.agg #[.bool true, .bool false, .int .i64 st, .int .i64 cl, .int .i64 bk])) ∧ Below w.heap.size w w' := by
  have hu28 := Try.underlying28
  go_enter Try.func95, Try.ntmps95
  go_wp2
  go_returns
  exact ⟨rfl, by repeat (first | exact Below.refl _ _ | apply below_alloc | apply pw_below_drewN | apply below_drew1)⟩
theorem of_in (st cl bk : Int) (w : World) :
    Calls Try.prog 95 #[.agg #[.bool false, .bool false, .int .i64 st, .int .i64 cl, .int .i64 bk]] w fun e w' => e = .returned (.iface 162 (.agg #[.bool false, .bool false, .int .i64 st, .int .i64 cl, .int .i64 bk])) ∧ Below w.heap.size w w' := by
  have hu28 := Try.underlying28
  go_enter Try.func95, Try.ntmps95
  go_wp2
  go_returns
  exact ⟨rfl, by repeat (first | exact Below.refl _ _ | apply below_alloc | apply pw_below_drewN | apply below_drew1)⟩
theorem size_new (w : World) (o o' : Obj) : ((w.alloc o).alloc o').heap[w.heap.size + 1]? = some o' := by
  have e : (w.alloc o).heap.size = w.heap.size + 1 := by show (w.heap.push o).size = _; simp
  have := blk_new (w.alloc o) o'
  rwa [e] at this
set_option maxRecDepth 100000 in
theorem fine_nil_no (L C B st cl bk : Int) (h : latch_Right.f L C B = some false) (w : World) :
    Calls Try.prog 69 #[.agg #[.int .i64 L, .int .i64 C, .int .i64 B], .agg #[.bool false, .bool true, .int .i64 st, .int .i64 cl, .int .i64 bk]] w fun e w' => e = .returned (.bool false) ∧ Below w.heap.size w w' := by
  have hu23 := Try.underlying23
  have hu28 := Try.underlying28
  have H := Aside0.mk h
  clear h
  go_enter Try.func69, Try.ntmps69
  go_wp2_with (first
    | (go_at_call 95; refine (of_nil _ _ _ _).mono ?_; rintro e w1 ⟨rfl, hb⟩; have R1 := Aside0.mk (blk_below (g := w.heap.size) (o := (.cells #[.int .i64 L, .int .i64 C, .int .i64 B] 23 (0, 0))) (blk_alloc (blk_new _ _) _) hb); have S1 := Aside0.mk (blk_below (g := w.heap.size + 1) (o := (.cells #[.bool false, .bool true, .int .i64 st, .int .i64 cl, .int .i64 bk] 28 (0, 0))) (size_new _ _ _) hb); have r1_0 : World.cell? _ ⟨w.heap.size, 0, none⟩ = some (.int .i64 L) := (blk_cell R1.out 0).trans rfl; have r1_1 : World.cell? _ ⟨w.heap.size, 1, none⟩ = some (.int .i64 C) := (blk_cell R1.out 1).trans rfl; have r1_2 : World.cell? _ ⟨w.heap.size, 2, none⟩ = some (.int .i64 B) := (blk_cell R1.out 2).trans rfl; have s1_0 : World.cell? _ ⟨w.heap.size + 1, 0, none⟩ = some (.bool false) := (blk_cell S1.out 0).trans rfl; have s1_1 : World.cell? _ ⟨w.heap.size + 1, 1, none⟩ = some (.bool true) := (blk_cell S1.out 1).trans rfl; have s1_2 : World.cell? _ ⟨w.heap.size + 1, 2, none⟩ = some (.int .i64 st) := (blk_cell S1.out 2).trans rfl; have s1_3 : World.cell? _ ⟨w.heap.size + 1, 3, none⟩ = some (.int .i64 cl) := (blk_cell S1.out 3).trans rfl; have s1_4 : World.cell? _ ⟨w.heap.size + 1, 4, none⟩ = some (.int .i64 bk) := (blk_cell S1.out 4).trans rfl; have HB1 := Aside0.mk (below_step (w := w) (by repeat (first | (with_reducible first | exact Below.refl _ _ | apply below_alloc | apply pw_below_drewN | apply below_drew1) | exact Below.refl _ _)) hb); clear hb)
    | (go_at_call 15; refine (latch_Right.calls _ _ _ _ _ H.out).mono ?_; rintro e w2 ⟨rfl, hb⟩; have R2 := Aside0.mk (blk_below (g := w.heap.size) (o := (.cells #[.int .i64 L, .int .i64 C, .int .i64 B] 23 (0, 0))) (by (with_reducible repeat (first | refine blk_drewN ?_ _ | refine blk_drew ?_ | refine blk_alloc ?_ _)); exact R1.out) hb); have S2 := Aside0.mk (blk_below (g := w.heap.size + 1) (o := (.cells #[.bool false, .bool true, .int .i64 st, .int .i64 cl, .int .i64 bk] 28 (0, 0))) (by (with_reducible repeat (first | refine blk_drewN ?_ _ | refine blk_drew ?_ | refine blk_alloc ?_ _)); exact S1.out) hb); have r2_0 : World.cell? _ ⟨w.heap.size, 0, none⟩ = some (.int .i64 L) := (blk_cell R2.out 0).trans rfl; have r2_1 : World.cell? _ ⟨w.heap.size, 1, none⟩ = some (.int .i64 C) := (blk_cell R2.out 1).trans rfl; have r2_2 : World.cell? _ ⟨w.heap.size, 2, none⟩ = some (.int .i64 B) := (blk_cell R2.out 2).trans rfl; have s2_0 : World.cell? _ ⟨w.heap.size + 1, 0, none⟩ = some (.bool false) := (blk_cell S2.out 0).trans rfl; have s2_1 : World.cell? _ ⟨w.heap.size + 1, 1, none⟩ = some (.bool true) := (blk_cell S2.out 1).trans rfl; have s2_2 : World.cell? _ ⟨w.heap.size + 1, 2, none⟩ = some (.int .i64 st) := (blk_cell S2.out 2).trans rfl; have s2_3 : World.cell? _ ⟨w.heap.size + 1, 3, none⟩ = some (.int .i64 cl) := (blk_cell S2.out 3).trans rfl; have s2_4 : World.cell? _ ⟨w.heap.size + 1, 4, none⟩ = some (.int .i64 bk) := (blk_cell S2.out 4).trans rfl; have HB2 := Aside0.mk (below_step (w := w) (by repeat (first | (with_reducible first | exact HB1.out | apply below_alloc | apply pw_below_drewN | apply below_drew1) | exact HB1.out)) hb); clear hb))
  go_returns
  exact ⟨rfl, by repeat (first | exact HB2.out | apply below_alloc | apply pw_below_drewN | apply below_drew1)⟩
set_option maxRecDepth 100000 in
theorem fine_nil_yes (L C B st cl bk : Int) (h : latch_Right.f L C B = some true) (w : World) :
    Calls Try.prog 69 #[.agg #[.int .i64 L, .int .i64 C, .int .i64 B], .agg #[.bool false, .bool true, .int .i64 st, .int .i64 cl, .int .i64 bk]] w fun e w' => e = .returned (.bool false) ∧ Below w.heap.size w w' := by
  have hu23 := Try.underlying23
  have hu28 := Try.underlying28
  have H := Aside0.mk h
  clear h
  go_enter Try.func69, Try.ntmps69
  go_wp2_with (first
    | (go_at_call 95; refine (of_nil _ _ _ _).mono ?_; rintro e w1 ⟨rfl, hb⟩; have R1 := Aside0.mk (blk_below (g := w.heap.size) (o := (.cells #[.int .i64 L, .int .i64 C, .int .i64 B] 23 (0, 0))) (blk_alloc (blk_new _ _) _) hb); have S1 := Aside0.mk (blk_below (g := w.heap.size + 1) (o := (.cells #[.bool false, .bool true, .int .i64 st, .int .i64 cl, .int .i64 bk] 28 (0, 0))) (size_new _ _ _) hb); have r1_0 : World.cell? _ ⟨w.heap.size, 0, none⟩ = some (.int .i64 L) := (blk_cell R1.out 0).trans rfl; have r1_1 : World.cell? _ ⟨w.heap.size, 1, none⟩ = some (.int .i64 C) := (blk_cell R1.out 1).trans rfl; have r1_2 : World.cell? _ ⟨w.heap.size, 2, none⟩ = some (.int .i64 B) := (blk_cell R1.out 2).trans rfl; have s1_0 : World.cell? _ ⟨w.heap.size + 1, 0, none⟩ = some (.bool false) := (blk_cell S1.out 0).trans rfl; have s1_1 : World.cell? _ ⟨w.heap.size + 1, 1, none⟩ = some (.bool true) := (blk_cell S1.out 1).trans rfl; have s1_2 : World.cell? _ ⟨w.heap.size + 1, 2, none⟩ = some (.int .i64 st) := (blk_cell S1.out 2).trans rfl; have s1_3 : World.cell? _ ⟨w.heap.size + 1, 3, none⟩ = some (.int .i64 cl) := (blk_cell S1.out 3).trans rfl; have s1_4 : World.cell? _ ⟨w.heap.size + 1, 4, none⟩ = some (.int .i64 bk) := (blk_cell S1.out 4).trans rfl; have HB1 := Aside0.mk (below_step (w := w) (by repeat (first | (with_reducible first | exact Below.refl _ _ | apply below_alloc | apply pw_below_drewN | apply below_drew1) | exact Below.refl _ _)) hb); clear hb)
    | (go_at_call 15; refine (latch_Right.calls _ _ _ _ _ H.out).mono ?_; rintro e w2 ⟨rfl, hb⟩; have R2 := Aside0.mk (blk_below (g := w.heap.size) (o := (.cells #[.int .i64 L, .int .i64 C, .int .i64 B] 23 (0, 0))) (by (with_reducible repeat (first | refine blk_drewN ?_ _ | refine blk_drew ?_ | refine blk_alloc ?_ _)); exact R1.out) hb); have S2 := Aside0.mk (blk_below (g := w.heap.size + 1) (o := (.cells #[.bool false, .bool true, .int .i64 st, .int .i64 cl, .int .i64 bk] 28 (0, 0))) (by (with_reducible repeat (first | refine blk_drewN ?_ _ | refine blk_drew ?_ | refine blk_alloc ?_ _)); exact S1.out) hb); have r2_0 : World.cell? _ ⟨w.heap.size, 0, none⟩ = some (.int .i64 L) := (blk_cell R2.out 0).trans rfl; have r2_1 : World.cell? _ ⟨w.heap.size, 1, none⟩ = some (.int .i64 C) := (blk_cell R2.out 1).trans rfl; have r2_2 : World.cell? _ ⟨w.heap.size, 2, none⟩ = some (.int .i64 B) := (blk_cell R2.out 2).trans rfl; have s2_0 : World.cell? _ ⟨w.heap.size + 1, 0, none⟩ = some (.bool false) := (blk_cell S2.out 0).trans rfl; have s2_1 : World.cell? _ ⟨w.heap.size + 1, 1, none⟩ = some (.bool true) := (blk_cell S2.out 1).trans rfl; have s2_2 : World.cell? _ ⟨w.heap.size + 1, 2, none⟩ = some (.int .i64 st) := (blk_cell S2.out 2).trans rfl; have s2_3 : World.cell? _ ⟨w.heap.size + 1, 3, none⟩ = some (.int .i64 cl) := (blk_cell S2.out 3).trans rfl; have s2_4 : World.cell? _ ⟨w.heap.size + 1, 4, none⟩ = some (.int .i64 bk) := (blk_cell S2.out 4).trans rfl; have HB2 := Aside0.mk (below_step (w := w) (by repeat (first | (with_reducible first | exact HB1.out | apply below_alloc | apply pw_below_drewN | apply below_drew1) | exact HB1.out)) hb); clear hb))
  go_returns
  exact ⟨rfl, by repeat (first | exact HB2.out | apply below_alloc | apply pw_below_drewN | apply below_drew1)⟩
set_option maxRecDepth 100000 in
theorem fine_out_no (L C B st cl bk : Int) (h : latch_Right.f L C B = some false) (w : World) :
    Calls Try.prog 69 #[.agg #[.int .i64 L, .int .i64 C, .int .i64 B], .agg #[.bool true, .bool true, .int .i64 st, .int .i64 cl, .int .i64 bk]] w fun e w' => e = .returned (.bool false) ∧ Below w.heap.size w w' := by
  have hu23 := Try.underlying23
  have hu28 := Try.underlying28
  have H := Aside0.mk h
  clear h
  go_enter Try.func69, Try.ntmps69
  go_wp2_with (first
    | (go_at_call 95; refine (of_out _ _ _ _).mono ?_; rintro e w1 ⟨rfl, hb⟩; have R1 := Aside0.mk (blk_below (g := w.heap.size) (o := (.cells #[.int .i64 L, .int .i64 C, .int .i64 B] 23 (0, 0))) (blk_alloc (blk_new _ _) _) hb); have S1 := Aside0.mk (blk_below (g := w.heap.size + 1) (o := (.cells #[.bool true, .bool true, .int .i64 st, .int .i64 cl, .int .i64 bk] 28 (0, 0))) (size_new _ _ _) hb); have r1_0 : World.cell? _ ⟨w.heap.size, 0, none⟩ = some (.int .i64 L) := (blk_cell R1.out 0).trans rfl; have r1_1 : World.cell? _ ⟨w.heap.size, 1, none⟩ = some (.int .i64 C) := (blk_cell R1.out 1).trans rfl; have r1_2 : World.cell? _ ⟨w.heap.size, 2, none⟩ = some (.int .i64 B) := (blk_cell R1.out 2).trans rfl; have s1_0 : World.cell? _ ⟨w.heap.size + 1, 0, none⟩ = some (.bool true) := (blk_cell S1.out 0).trans rfl; have s1_1 : World.cell? _ ⟨w.heap.size + 1, 1, none⟩ = some (.bool true) := (blk_cell S1.out 1).trans rfl; have s1_2 : World.cell? _ ⟨w.heap.size + 1, 2, none⟩ = some (.int .i64 st) := (blk_cell S1.out 2).trans rfl; have s1_3 : World.cell? _ ⟨w.heap.size + 1, 3, none⟩ = some (.int .i64 cl) := (blk_cell S1.out 3).trans rfl; have s1_4 : World.cell? _ ⟨w.heap.size + 1, 4, none⟩ = some (.int .i64 bk) := (blk_cell S1.out 4).trans rfl; have HB1 := Aside0.mk (below_step (w := w) (by repeat (first | (with_reducible first | exact Below.refl _ _ | apply below_alloc | apply pw_below_drewN | apply below_drew1) | exact Below.refl _ _)) hb); clear hb)
    | (go_at_call 15; refine (latch_Right.calls _ _ _ _ _ H.out).mono ?_; rintro e w2 ⟨rfl, hb⟩; have R2 := Aside0.mk (blk_below (g := w.heap.size) (o := (.cells #[.int .i64 L, .int .i64 C, .int .i64 B] 23 (0, 0))) (by (with_reducible repeat (first | refine blk_drewN ?_ _ | refine blk_drew ?_ | refine blk_alloc ?_ _)); exact R1.out) hb); have S2 := Aside0.mk (blk_below (g := w.heap.size + 1) (o := (.cells #[.bool true, .bool true, .int .i64 st, .int .i64 cl, .int .i64 bk] 28 (0, 0))) (by (with_reducible repeat (first | refine blk_drewN ?_ _ | refine blk_drew ?_ | refine blk_alloc ?_ _)); exact S1.out) hb); have r2_0 : World.cell? _ ⟨w.heap.size, 0, none⟩ = some (.int .i64 L) := (blk_cell R2.out 0).trans rfl; have r2_1 : World.cell? _ ⟨w.heap.size, 1, none⟩ = some (.int .i64 C) := (blk_cell R2.out 1).trans rfl; have r2_2 : World.cell? _ ⟨w.heap.size, 2, none⟩ = some (.int .i64 B) := (blk_cell R2.out 2).trans rfl; have s2_0 : World.cell? _ ⟨w.heap.size + 1, 0, none⟩ = some (.bool true) := (blk_cell S2.out 0).trans rfl; have s2_1 : World.cell? _ ⟨w.heap.size + 1, 1, none⟩ = some (.bool true) := (blk_cell S2.out 1).trans rfl; have s2_2 : World.cell? _ ⟨w.heap.size + 1, 2, none⟩ = some (.int .i64 st) := (blk_cell S2.out 2).trans rfl; have s2_3 : World.cell? _ ⟨w.heap.size + 1, 3, none⟩ = some (.int .i64 cl) := (blk_cell S2.out 3).trans rfl; have s2_4 : World.cell? _ ⟨w.heap.size + 1, 4, none⟩ = some (.int .i64 bk) := (blk_cell S2.out 4).trans rfl; have HB2 := Aside0.mk (below_step (w := w) (by repeat (first | (with_reducible first | exact HB1.out | apply below_alloc | apply pw_below_drewN | apply below_drew1) | exact HB1.out)) hb); clear hb))
  go_returns
  exact ⟨rfl, by repeat (first | exact HB2.out | apply below_alloc | apply pw_below_drewN | apply below_drew1)⟩
set_option maxRecDepth 100000 in
theorem fine_out_yes (L C B st cl bk : Int) (h : latch_Right.f L C B = some true) (x : Bool) (hx : latch_out_fine.f true true st cl bk L C B = some x) (w : World) :
    Calls Try.prog 69 #[.agg #[.int .i64 L, .int .i64 C, .int .i64 B], .agg #[.bool true, .bool true, .int .i64 st, .int .i64 cl, .int .i64 bk]] w fun e w' => e = .returned (.bool x) ∧ Below w.heap.size w w' := by
  have hu23 := Try.underlying23
  have hu28 := Try.underlying28
  have H := Aside0.mk h
  clear h
  have HX := Aside0.mk hx
  clear hx
  go_enter Try.func69, Try.ntmps69
  go_wp2_with (first
    | (go_at_call 95; refine (of_out _ _ _ _).mono ?_; rintro e w1 ⟨rfl, hb⟩; have R1 := Aside0.mk (blk_below (g := w.heap.size) (o := (.cells #[.int .i64 L, .int .i64 C, .int .i64 B] 23 (0, 0))) (blk_alloc (blk_new _ _) _) hb); have S1 := Aside0.mk (blk_below (g := w.heap.size + 1) (o := (.cells #[.bool true, .bool true, .int .i64 st, .int .i64 cl, .int .i64 bk] 28 (0, 0))) (size_new _ _ _) hb); have r1_0 : World.cell? _ ⟨w.heap.size, 0, none⟩ = some (.int .i64 L) := (blk_cell R1.out 0).trans rfl; have r1_1 : World.cell? _ ⟨w.heap.size, 1, none⟩ = some (.int .i64 C) := (blk_cell R1.out 1).trans rfl; have r1_2 : World.cell? _ ⟨w.heap.size, 2, none⟩ = some (.int .i64 B) := (blk_cell R1.out 2).trans rfl; have s1_0 : World.cell? _ ⟨w.heap.size + 1, 0, none⟩ = some (.bool true) := (blk_cell S1.out 0).trans rfl; have s1_1 : World.cell? _ ⟨w.heap.size + 1, 1, none⟩ = some (.bool true) := (blk_cell S1.out 1).trans rfl; have s1_2 : World.cell? _ ⟨w.heap.size + 1, 2, none⟩ = some (.int .i64 st) := (blk_cell S1.out 2).trans rfl; have s1_3 : World.cell? _ ⟨w.heap.size + 1, 3, none⟩ = some (.int .i64 cl) := (blk_cell S1.out 3).trans rfl; have s1_4 : World.cell? _ ⟨w.heap.size + 1, 4, none⟩ = some (.int .i64 bk) := (blk_cell S1.out 4).trans rfl; have HB1 := Aside0.mk (below_step (w := w) (by repeat (first | (with_reducible first | exact Below.refl _ _ | apply below_alloc | apply pw_below_drewN | apply below_drew1) | exact Below.refl _ _)) hb); clear hb)
    | (go_at_call 15; refine (latch_Right.calls _ _ _ _ _ H.out).mono ?_; rintro e w2 ⟨rfl, hb⟩; have R2 := Aside0.mk (blk_below (g := w.heap.size) (o := (.cells #[.int .i64 L, .int .i64 C, .int .i64 B] 23 (0, 0))) (by (with_reducible repeat (first | refine blk_drewN ?_ _ | refine blk_drew ?_ | refine blk_alloc ?_ _)); exact R1.out) hb); have S2 := Aside0.mk (blk_below (g := w.heap.size + 1) (o := (.cells #[.bool true, .bool true, .int .i64 st, .int .i64 cl, .int .i64 bk] 28 (0, 0))) (by (with_reducible repeat (first | refine blk_drewN ?_ _ | refine blk_drew ?_ | refine blk_alloc ?_ _)); exact S1.out) hb); have r2_0 : World.cell? _ ⟨w.heap.size, 0, none⟩ = some (.int .i64 L) := (blk_cell R2.out 0).trans rfl; have r2_1 : World.cell? _ ⟨w.heap.size, 1, none⟩ = some (.int .i64 C) := (blk_cell R2.out 1).trans rfl; have r2_2 : World.cell? _ ⟨w.heap.size, 2, none⟩ = some (.int .i64 B) := (blk_cell R2.out 2).trans rfl; have s2_0 : World.cell? _ ⟨w.heap.size + 1, 0, none⟩ = some (.bool true) := (blk_cell S2.out 0).trans rfl; have s2_1 : World.cell? _ ⟨w.heap.size + 1, 1, none⟩ = some (.bool true) := (blk_cell S2.out 1).trans rfl; have s2_2 : World.cell? _ ⟨w.heap.size + 1, 2, none⟩ = some (.int .i64 st) := (blk_cell S2.out 2).trans rfl; have s2_3 : World.cell? _ ⟨w.heap.size + 1, 3, none⟩ = some (.int .i64 cl) := (blk_cell S2.out 3).trans rfl; have s2_4 : World.cell? _ ⟨w.heap.size + 1, 4, none⟩ = some (.int .i64 bk) := (blk_cell S2.out 4).trans rfl; have HB2 := Aside0.mk (below_step (w := w) (by repeat (first | (with_reducible first | exact HB1.out | apply below_alloc | apply pw_below_drewN | apply below_drew1) | exact HB1.out)) hb); clear hb))
  refine (latch_out_fine.calls _ _ _ _ _ _ _ _ _ _ HX.out).mono ?_
  rintro e w3 ⟨rfl, hb⟩; have R3 := Aside0.mk (blk_below (g := w.heap.size) (o := (.cells #[.int .i64 L, .int .i64 C, .int .i64 B] 23 (0, 0))) (by (with_reducible repeat (first | refine blk_drewN ?_ _ | refine blk_drew ?_ | refine blk_alloc ?_ _)); exact R2.out) hb); have S3 := Aside0.mk (blk_below (g := w.heap.size + 1) (o := (.cells #[.bool true, .bool true, .int .i64 st, .int .i64 cl, .int .i64 bk] 28 (0, 0))) (by (with_reducible repeat (first | refine blk_drewN ?_ _ | refine blk_drew ?_ | refine blk_alloc ?_ _)); exact S2.out) hb); have r3_0 : World.cell? _ ⟨w.heap.size, 0, none⟩ = some (.int .i64 L) := (blk_cell R3.out 0).trans rfl; have r3_1 : World.cell? _ ⟨w.heap.size, 1, none⟩ = some (.int .i64 C) := (blk_cell R3.out 1).trans rfl; have r3_2 : World.cell? _ ⟨w.heap.size, 2, none⟩ = some (.int .i64 B) := (blk_cell R3.out 2).trans rfl; have s3_0 : World.cell? _ ⟨w.heap.size + 1, 0, none⟩ = some (.bool true) := (blk_cell S3.out 0).trans rfl; have s3_1 : World.cell? _ ⟨w.heap.size + 1, 1, none⟩ = some (.bool true) := (blk_cell S3.out 1).trans rfl; have s3_2 : World.cell? _ ⟨w.heap.size + 1, 2, none⟩ = some (.int .i64 st) := (blk_cell S3.out 2).trans rfl; have s3_3 : World.cell? _ ⟨w.heap.size + 1, 3, none⟩ = some (.int .i64 cl) := (blk_cell S3.out 3).trans rfl; have s3_4 : World.cell? _ ⟨w.heap.size + 1, 4, none⟩ = some (.int .i64 bk) := (blk_cell S3.out 4).trans rfl; have HB3 := Aside0.mk (below_step (w := w) (by repeat (first | (with_reducible first | exact HB2.out | apply below_alloc | apply pw_below_drewN | apply below_drew1) | exact HB2.out)) hb); clear hb; simp only []; go_at_K
  go_wp2
  go_returns
  exact ⟨rfl, by repeat (first | exact HB3.out | apply below_alloc | apply pw_below_drewN | apply below_drew1)⟩
set_option maxRecDepth 100000 in
theorem fine_latched_no (L C B st cl bk : Int) (h : latch_Right.f L C B = some false) (w : World) :
    Calls Try.prog 69 #[.agg #[.int .i64 L, .int .i64 C, .int .i64 B], .agg #[.bool true, .bool false, .int .i64 st, .int .i64 cl, .int .i64 bk]] w fun e w' => e = .returned (.bool false) ∧ Below w.heap.size w w' := by
  have hu23 := Try.underlying23
  have hu28 := Try.underlying28
  have H := Aside0.mk h
  clear h
  go_enter Try.func69, Try.ntmps69
  go_wp2_with (first
    | (go_at_call 95; refine (of_latched _ _ _ _).mono ?_; rintro e w1 ⟨rfl, hb⟩; have R1 := Aside0.mk (blk_below (g := w.heap.size) (o := (.cells #[.int .i64 L, .int .i64 C, .int .i64 B] 23 (0, 0))) (blk_alloc (blk_new _ _) _) hb); have S1 := Aside0.mk (blk_below (g := w.heap.size + 1) (o := (.cells #[.bool true, .bool false, .int .i64 st, .int .i64 cl, .int .i64 bk] 28 (0, 0))) (size_new _ _ _) hb); have r1_0 : World.cell? _ ⟨w.heap.size, 0, none⟩ = some (.int .i64 L) := (blk_cell R1.out 0).trans rfl; have r1_1 : World.cell? _ ⟨w.heap.size, 1, none⟩ = some (.int .i64 C) := (blk_cell R1.out 1).trans rfl; have r1_2 : World.cell? _ ⟨w.heap.size, 2, none⟩ = some (.int .i64 B) := (blk_cell R1.out 2).trans rfl; have s1_0 : World.cell? _ ⟨w.heap.size + 1, 0, none⟩ = some (.bool true) := (blk_cell S1.out 0).trans rfl; have s1_1 : World.cell? _ ⟨w.heap.size + 1, 1, none⟩ = some (.bool false) := (blk_cell S1.out 1).trans rfl; have s1_2 : World.cell? _ ⟨w.heap.size + 1, 2, none⟩ = some (.int .i64 st) := (blk_cell S1.out 2).trans rfl; have s1_3 : World.cell? _ ⟨w.heap.size + 1, 3, none⟩ = some (.int .i64 cl) := (blk_cell S1.out 3).trans rfl; have s1_4 : World.cell? _ ⟨w.heap.size + 1, 4, none⟩ = some (.int .i64 bk) := (blk_cell S1.out 4).trans rfl; have HB1 := Aside0.mk (below_step (w := w) (by repeat (first | (with_reducible first | exact Below.refl _ _ | apply below_alloc | apply pw_below_drewN | apply below_drew1) | exact Below.refl _ _)) hb); clear hb)
    | (go_at_call 15; refine (latch_Right.calls _ _ _ _ _ H.out).mono ?_; rintro e w2 ⟨rfl, hb⟩; have R2 := Aside0.mk (blk_below (g := w.heap.size) (o := (.cells #[.int .i64 L, .int .i64 C, .int .i64 B] 23 (0, 0))) (by (with_reducible repeat (first | refine blk_drewN ?_ _ | refine blk_drew ?_ | refine blk_alloc ?_ _)); exact R1.out) hb); have S2 := Aside0.mk (blk_below (g := w.heap.size + 1) (o := (.cells #[.bool true, .bool false, .int .i64 st, .int .i64 cl, .int .i64 bk] 28 (0, 0))) (by (with_reducible repeat (first | refine blk_drewN ?_ _ | refine blk_drew ?_ | refine blk_alloc ?_ _)); exact S1.out) hb); have r2_0 : World.cell? _ ⟨w.heap.size, 0, none⟩ = some (.int .i64 L) := (blk_cell R2.out 0).trans rfl; have r2_1 : World.cell? _ ⟨w.heap.size, 1, none⟩ = some (.int .i64 C) := (blk_cell R2.out 1).trans rfl; have r2_2 : World.cell? _ ⟨w.heap.size, 2, none⟩ = some (.int .i64 B) := (blk_cell R2.out 2).trans rfl; have s2_0 : World.cell? _ ⟨w.heap.size + 1, 0, none⟩ = some (.bool true) := (blk_cell S2.out 0).trans rfl; have s2_1 : World.cell? _ ⟨w.heap.size + 1, 1, none⟩ = some (.bool false) := (blk_cell S2.out 1).trans rfl; have s2_2 : World.cell? _ ⟨w.heap.size + 1, 2, none⟩ = some (.int .i64 st) := (blk_cell S2.out 2).trans rfl; have s2_3 : World.cell? _ ⟨w.heap.size + 1, 3, none⟩ = some (.int .i64 cl) := (blk_cell S2.out 3).trans rfl; have s2_4 : World.cell? _ ⟨w.heap.size + 1, 4, none⟩ = some (.int .i64 bk) := (blk_cell S2.out 4).trans rfl; have HB2 := Aside0.mk (below_step (w := w) (by repeat (first | (with_reducible first | exact HB1.out | apply below_alloc | apply pw_below_drewN | apply below_drew1) | exact HB1.out)) hb); clear hb))
  go_returns
  exact ⟨rfl, by repeat (first | exact HB2.out | apply below_alloc | apply pw_below_drewN | apply below_drew1)⟩
set_option maxRecDepth 100000 in
theorem fine_latched_yes (L C B st cl bk : Int) (h : latch_Right.f L C B = some true) (x : Bool) (hx : latch_latched_fine.f true false st cl bk L C B = some x) (w : World) :
    Calls Try.prog 69 #[.agg #[.int .i64 L, .int .i64 C, .int .i64 B], .agg #[.bool true, .bool false, .int .i64 st, .int .i64 cl, .int .i64 bk]] w fun e w' => e = .returned (.bool x) ∧ Below w.heap.size w w' := by
  have hu23 := Try.underlying23
  have hu28 := Try.underlying28
  have H := Aside0.mk h
  clear h
  have HX := Aside0.mk hx
  clear hx
  go_enter Try.func69, Try.ntmps69
  go_wp2_with (first
    | (go_at_call 95; refine (of_latched _ _ _ _).mono ?_; rintro e w1 ⟨rfl, hb⟩; have R1 := Aside0.mk (blk_below (g := w.heap.size) (o := (.cells #[.int .i64 L, .int .i64 C, .int .i64 B] 23 (0, 0))) (blk_alloc (blk_new _ _) _) hb); have S1 := Aside0.mk (blk_below (g := w.heap.size + 1) (o := (.cells #[.bool true, .bool false, .int .i64 st, .int .i64 cl, .int .i64 bk] 28 (0, 0))) (size_new _ _ _) hb); have r1_0 : World.cell? _ ⟨w.heap.size, 0, none⟩ = some (.int .i64 L) := (blk_cell R1.out 0).trans rfl; have r1_1 : World.cell? _ ⟨w.heap.size, 1, none⟩ = some (.int .i64 C) := (blk_cell R1.out 1).trans rfl; have r1_2 : World.cell? _ ⟨w.heap.size, 2, none⟩ = some (.int .i64 B) := (blk_cell R1.out 2).trans rfl; have s1_0 : World.cell? _ ⟨w.heap.size + 1, 0, none⟩ = some (.bool true) := (blk_cell S1.out 0).trans rfl; have s1_1 : World.cell? _ ⟨w.heap.size + 1, 1, none⟩ = some (.bool false) := (blk_cell S1.out 1).trans rfl; have s1_2 : World.cell? _ ⟨w.heap.size + 1, 2, none⟩ = some (.int .i64 st) := (blk_cell S1.out 2).trans rfl; have s1_3 : World.cell? _ ⟨w.heap.size + 1, 3, none⟩ = some (.int .i64 cl) := (blk_cell S1.out 3).trans rfl; have s1_4 : World.cell? _ ⟨w.heap.size + 1, 4, none⟩ = some (.int .i64 bk) := (blk_cell S1.out 4).trans rfl; have HB1 := Aside0.mk (below_step (w := w) (by repeat (first | (with_reducible first | exact Below.refl _ _ | apply below_alloc | apply pw_below_drewN | apply below_drew1) | exact Below.refl _ _)) hb); clear hb)
    | (go_at_call 15; refine (latch_Right.calls _ _ _ _ _ H.out).mono ?_; rintro e w2 ⟨rfl, hb⟩; have R2 := Aside0.mk (blk_below (g := w.heap.size) (o := (.cells #[.int .i64 L, .int .i64 C, .int .i64 B] 23 (0, 0))) (by (with_reducible repeat (first | refine blk_drewN ?_ _ | refine blk_drew ?_ | refine blk_alloc ?_ _)); exact R1.out) hb); have S2 := Aside0.mk (blk_below (g := w.heap.size + 1) (o := (.cells #[.bool true, .bool false, .int .i64 st, .int .i64 cl, .int .i64 bk] 28 (0, 0))) (by (with_reducible repeat (first | refine blk_drewN ?_ _ | refine blk_drew ?_ | refine blk_alloc ?_ _)); exact S1.out) hb); have r2_0 : World.cell? _ ⟨w.heap.size, 0, none⟩ = some (.int .i64 L) := (blk_cell R2.out 0).trans rfl; have r2_1 : World.cell? _ ⟨w.heap.size, 1, none⟩ = some (.int .i64 C) := (blk_cell R2.out 1).trans rfl; have r2_2 : World.cell? _ ⟨w.heap.size, 2, none⟩ = some (.int .i64 B) := (blk_cell R2.out 2).trans rfl; have s2_0 : World.cell? _ ⟨w.heap.size + 1, 0, none⟩ = some (.bool true) := (blk_cell S2.out 0).trans rfl; have s2_1 : World.cell? _ ⟨w.heap.size + 1, 1, none⟩ = some (.bool false) := (blk_cell S2.out 1).trans rfl; have s2_2 : World.cell? _ ⟨w.heap.size + 1, 2, none⟩ = some (.int .i64 st) := (blk_cell S2.out 2).trans rfl; have s2_3 : World.cell? _ ⟨w.heap.size + 1, 3, none⟩ = some (.int .i64 cl) := (blk_cell S2.out 3).trans rfl; have s2_4 : World.cell? _ ⟨w.heap.size + 1, 4, none⟩ = some (.int .i64 bk) := (blk_cell S2.out 4).trans rfl; have HB2 := Aside0.mk (below_step (w := w) (by repeat (first | (with_reducible first | exact HB1.out | apply below_alloc | apply pw_below_drewN | apply below_drew1) | exact HB1.out)) hb); clear hb))
  refine (latch_latched_fine.calls _ _ _ _ _ _ _ _ _ _ HX.out).mono ?_
  rintro e w3 ⟨rfl, hb⟩; have R3 := Aside0.mk (blk_below (g := w.heap.size) (o := (.cells #[.int .i64 L, .int .i64 C, .int .i64 B] 23 (0, 0))) (by (with_reducible repeat (first | refine blk_drewN ?_ _ | refine blk_drew ?_ | refine blk_alloc ?_ _)); exact R2.out) hb); have S3 := Aside0.mk (blk_below (g := w.heap.size + 1) (o := (.cells #[.bool true, .bool false, .int .i64 st, .int .i64 cl, .int .i64 bk] 28 (0, 0))) (by (with_reducible repeat (first | refine blk_drewN ?_ _ | refine blk_drew ?_ | refine blk_alloc ?_ _)); exact S2.out) hb); have r3_0 : World.cell? _ ⟨w.heap.size, 0, none⟩ = some (.int .i64 L) := (blk_cell R3.out 0).trans rfl; have r3_1 : World.cell? _ ⟨w.heap.size, 1, none⟩ = some (.int .i64 C) := (blk_cell R3.out 1).trans rfl; have r3_2 : World.cell? _ ⟨w.heap.size, 2, none⟩ = some (.int .i64 B) := (blk_cell R3.out 2).trans rfl; have s3_0 : World.cell? _ ⟨w.heap.size + 1, 0, none⟩ = some (.bool true) := (blk_cell S3.out 0).trans rfl; have s3_1 : World.cell? _ ⟨w.heap.size + 1, 1, none⟩ = some (.bool false) := (blk_cell S3.out 1).trans rfl; have s3_2 : World.cell? _ ⟨w.heap.size + 1, 2, none⟩ = some (.int .i64 st) := (blk_cell S3.out 2).trans rfl; have s3_3 : World.cell? _ ⟨w.heap.size + 1, 3, none⟩ = some (.int .i64 cl) := (blk_cell S3.out 3).trans rfl; have s3_4 : World.cell? _ ⟨w.heap.size + 1, 4, none⟩ = some (.int .i64 bk) := (blk_cell S3.out 4).trans rfl; have HB3 := Aside0.mk (below_step (w := w) (by repeat (first | (with_reducible first | exact HB2.out | apply below_alloc | apply pw_below_drewN | apply below_drew1) | exact HB2.out)) hb); clear hb; simp only []; go_at_K
  go_wp2
  go_returns
  exact ⟨rfl, by repeat (first | exact HB3.out | apply below_alloc | apply pw_below_drewN | apply below_drew1)⟩
set_option maxRecDepth 100000 in
theorem fine_in_no (L C B st cl bk : Int) (h : latch_Right.f L C B = some false) (w : World) :
    Calls Try.prog 69 #[.agg #[.int .i64 L, .int .i64 C, .int .i64 B], .agg #[.bool false, .bool false, .int .i64 st, .int .i64 cl, .int .i64 bk]] w fun e w' => e = .returned (.bool false) ∧ Below w.heap.size w w' := by
  have hu23 := Try.underlying23
  have hu28 := Try.underlying28
  have H := Aside0.mk h
  clear h
  go_enter Try.func69, Try.ntmps69
  go_wp2_with (first
    | (go_at_call 95; refine (of_in _ _ _ _).mono ?_; rintro e w1 ⟨rfl, hb⟩; have R1 := Aside0.mk (blk_below (g := w.heap.size) (o := (.cells #[.int .i64 L, .int .i64 C, .int .i64 B] 23 (0, 0))) (blk_alloc (blk_new _ _) _) hb); have S1 := Aside0.mk (blk_below (g := w.heap.size + 1) (o := (.cells #[.bool false, .bool false, .int .i64 st, .int .i64 cl, .int .i64 bk] 28 (0, 0))) (size_new _ _ _) hb); have r1_0 : World.cell? _ ⟨w.heap.size, 0, none⟩ = some (.int .i64 L) := (blk_cell R1.out 0).trans rfl; have r1_1 : World.cell? _ ⟨w.heap.size, 1, none⟩ = some (.int .i64 C) := (blk_cell R1.out 1).trans rfl; have r1_2 : World.cell? _ ⟨w.heap.size, 2, none⟩ = some (.int .i64 B) := (blk_cell R1.out 2).trans rfl; have s1_0 : World.cell? _ ⟨w.heap.size + 1, 0, none⟩ = some (.bool false) := (blk_cell S1.out 0).trans rfl; have s1_1 : World.cell? _ ⟨w.heap.size + 1, 1, none⟩ = some (.bool false) := (blk_cell S1.out 1).trans rfl; have s1_2 : World.cell? _ ⟨w.heap.size + 1, 2, none⟩ = some (.int .i64 st) := (blk_cell S1.out 2).trans rfl; have s1_3 : World.cell? _ ⟨w.heap.size + 1, 3, none⟩ = some (.int .i64 cl) := (blk_cell S1.out 3).trans rfl; have s1_4 : World.cell? _ ⟨w.heap.size + 1, 4, none⟩ = some (.int .i64 bk) := (blk_cell S1.out 4).trans rfl; have HB1 := Aside0.mk (below_step (w := w) (by repeat (first | (with_reducible first | exact Below.refl _ _ | apply below_alloc | apply pw_below_drewN | apply below_drew1) | exact Below.refl _ _)) hb); clear hb)
    | (go_at_call 15; refine (latch_Right.calls _ _ _ _ _ H.out).mono ?_; rintro e w2 ⟨rfl, hb⟩; have R2 := Aside0.mk (blk_below (g := w.heap.size) (o := (.cells #[.int .i64 L, .int .i64 C, .int .i64 B] 23 (0, 0))) (by (with_reducible repeat (first | refine blk_drewN ?_ _ | refine blk_drew ?_ | refine blk_alloc ?_ _)); exact R1.out) hb); have S2 := Aside0.mk (blk_below (g := w.heap.size + 1) (o := (.cells #[.bool false, .bool false, .int .i64 st, .int .i64 cl, .int .i64 bk] 28 (0, 0))) (by (with_reducible repeat (first | refine blk_drewN ?_ _ | refine blk_drew ?_ | refine blk_alloc ?_ _)); exact S1.out) hb); have r2_0 : World.cell? _ ⟨w.heap.size, 0, none⟩ = some (.int .i64 L) := (blk_cell R2.out 0).trans rfl; have r2_1 : World.cell? _ ⟨w.heap.size, 1, none⟩ = some (.int .i64 C) := (blk_cell R2.out 1).trans rfl; have r2_2 : World.cell? _ ⟨w.heap.size, 2, none⟩ = some (.int .i64 B) := (blk_cell R2.out 2).trans rfl; have s2_0 : World.cell? _ ⟨w.heap.size + 1, 0, none⟩ = some (.bool false) := (blk_cell S2.out 0).trans rfl; have s2_1 : World.cell? _ ⟨w.heap.size + 1, 1, none⟩ = some (.bool false) := (blk_cell S2.out 1).trans rfl; have s2_2 : World.cell? _ ⟨w.heap.size + 1, 2, none⟩ = some (.int .i64 st) := (blk_cell S2.out 2).trans rfl; have s2_3 : World.cell? _ ⟨w.heap.size + 1, 3, none⟩ = some (.int .i64 cl) := (blk_cell S2.out 3).trans rfl; have s2_4 : World.cell? _ ⟨w.heap.size + 1, 4, none⟩ = some (.int .i64 bk) := (blk_cell S2.out 4).trans rfl; have HB2 := Aside0.mk (below_step (w := w) (by repeat (first | (with_reducible first | exact HB1.out | apply below_alloc | apply pw_below_drewN | apply below_drew1) | exact HB1.out)) hb); clear hb))
  go_returns
  exact ⟨rfl, by repeat (first | exact HB2.out | apply below_alloc | apply pw_below_drewN | apply below_drew1)⟩
set_option maxRecDepth 100000 in
theorem fine_in_yes (L C B st cl bk : Int) (h : latch_Right.f L C B = some true) (x : Bool) (hx : latch_in_fine.f false false st cl bk L C B = some x) (w : World) :
    Calls Try.prog 69 #[.agg #[.int .i64 L, .int .i64 C, .int .i64 B], .agg #[.bool false, .bool false, .int .i64 st, .int .i64 cl, .int .i64 bk]] w fun e w' => e = .returned (.bool x) ∧ Below w.heap.size w w' := by
  have hu23 := Try.underlying23
  have hu28 := Try.underlying28
  have H := Aside0.mk h
  clear h
  have HX := Aside0.mk hx
  clear hx
  go_enter Try.func69, Try.ntmps69
  go_wp2_with (first
    | (go_at_call 95; refine (of_in _ _ _ _).mono ?_; rintro e w1 ⟨rfl, hb⟩; have R1 := Aside0.mk (blk_below (g := w.heap.size) (o := (.cells #[.int .i64 L, .int .i64 C, .int .i64 B] 23 (0, 0))) (blk_alloc (blk_new _ _) _) hb); have S1 := Aside0.mk (blk_below (g := w.heap.size + 1) (o := (.cells #[.bool false, .bool false, .int .i64 st, .int .i64 cl, .int .i64 bk] 28 (0, 0))) (size_new _ _ _) hb); have r1_0 : World.cell? _ ⟨w.heap.size, 0, none⟩ = some (.int .i64 L) := (blk_cell R1.out 0).trans rfl; have r1_1 : World.cell? _ ⟨w.heap.size, 1, none⟩ = some (.int .i64 C) := (blk_cell R1.out 1).trans rfl; have r1_2 : World.cell? _ ⟨w.heap.size, 2, none⟩ = some (.int .i64 B) := (blk_cell R1.out 2).trans rfl; have s1_0 : World.cell? _ ⟨w.heap.size + 1, 0, none⟩ = some (.bool false) := (blk_cell S1.out 0).trans rfl; have s1_1 : World.cell? _ ⟨w.heap.size + 1, 1, none⟩ = some (.bool false) := (blk_cell S1.out 1).trans rfl; have s1_2 : World.cell? _ ⟨w.heap.size + 1, 2, none⟩ = some (.int .i64 st) := (blk_cell S1.out 2).trans rfl; have s1_3 : World.cell? _ ⟨w.heap.size + 1, 3, none⟩ = some (.int .i64 cl) := (blk_cell S1.out 3).trans rfl; have s1_4 : World.cell? _ ⟨w.heap.size + 1, 4, none⟩ = some (.int .i64 bk) := (blk_cell S1.out 4).trans rfl; have HB1 := Aside0.mk (below_step (w := w) (by repeat (first | (with_reducible first | exact Below.refl _ _ | apply below_alloc | apply pw_below_drewN | apply below_drew1) | exact Below.refl _ _)) hb); clear hb)
    | (go_at_call 15; refine (latch_Right.calls _ _ _ _ _ H.out).mono ?_; rintro e w2 ⟨rfl, hb⟩; have R2 := Aside0.mk (blk_below (g := w.heap.size) (o := (.cells #[.int .i64 L, .int .i64 C, .int .i64 B] 23 (0, 0))) (by (with_reducible repeat (first | refine blk_drewN ?_ _ | refine blk_drew ?_ | refine blk_alloc ?_ _)); exact R1.out) hb); have S2 := Aside0.mk (blk_below (g := w.heap.size + 1) (o := (.cells #[.bool false, .bool false, .int .i64 st, .int .i64 cl, .int .i64 bk] 28 (0, 0))) (by (with_reducible repeat (first | refine blk_drewN ?_ _ | refine blk_drew ?_ | refine blk_alloc ?_ _)); exact S1.out) hb); have r2_0 : World.cell? _ ⟨w.heap.size, 0, none⟩ = some (.int .i64 L) := (blk_cell R2.out 0).trans rfl; have r2_1 : World.cell? _ ⟨w.heap.size, 1, none⟩ = some (.int .i64 C) := (blk_cell R2.out 1).trans rfl; have r2_2 : World.cell? _ ⟨w.heap.size, 2, none⟩ = some (.int .i64 B) := (blk_cell R2.out 2).trans rfl; have s2_0 : World.cell? _ ⟨w.heap.size + 1, 0, none⟩ = some (.bool false) := (blk_cell S2.out 0).trans rfl; have s2_1 : World.cell? _ ⟨w.heap.size + 1, 1, none⟩ = some (.bool false) := (blk_cell S2.out 1).trans rfl; have s2_2 : World.cell? _ ⟨w.heap.size + 1, 2, none⟩ = some (.int .i64 st) := (blk_cell S2.out 2).trans rfl; have s2_3 : World.cell? _ ⟨w.heap.size + 1, 3, none⟩ = some (.int .i64 cl) := (blk_cell S2.out 3).trans rfl; have s2_4 : World.cell? _ ⟨w.heap.size + 1, 4, none⟩ = some (.int .i64 bk) := (blk_cell S2.out 4).trans rfl; have HB2 := Aside0.mk (below_step (w := w) (by repeat (first | (with_reducible first | exact HB1.out | apply below_alloc | apply pw_below_drewN | apply below_drew1) | exact HB1.out)) hb); clear hb))
  refine (latch_in_fine.calls _ _ _ _ _ _ _ _ _ _ HX.out).mono ?_
  rintro e w3 ⟨rfl, hb⟩; have R3 := Aside0.mk (blk_below (g := w.heap.size) (o := (.cells #[.int .i64 L, .int .i64 C, .int .i64 B] 23 (0, 0))) (by (with_reducible repeat (first | refine blk_drewN ?_ _ | refine blk_drew ?_ | refine blk_alloc ?_ _)); exact R2.out) hb); have S3 := Aside0.mk (blk_below (g := w.heap.size + 1) (o := (.cells #[.bool false, .bool false, .int .i64 st, .int .i64 cl, .int .i64 bk] 28 (0, 0))) (by (with_reducible repeat (first | refine blk_drewN ?_ _ | refine blk_drew ?_ | refine blk_alloc ?_ _)); exact S2.out) hb); have r3_0 : World.cell? _ ⟨w.heap.size, 0, none⟩ = some (.int .i64 L) := (blk_cell R3.out 0).trans rfl; have r3_1 : World.cell? _ ⟨w.heap.size, 1, none⟩ = some (.int .i64 C) := (blk_cell R3.out 1).trans rfl; have r3_2 : World.cell? _ ⟨w.heap.size, 2, none⟩ = some (.int .i64 B) := (blk_cell R3.out 2).trans rfl; have s3_0 : World.cell? _ ⟨w.heap.size + 1, 0, none⟩ = some (.bool false) := (blk_cell S3.out 0).trans rfl; have s3_1 : World.cell? _ ⟨w.heap.size + 1, 1, none⟩ = some (.bool false) := (blk_cell S3.out 1).trans rfl; have s3_2 : World.cell? _ ⟨w.heap.size + 1, 2, none⟩ = some (.int .i64 st) := (blk_cell S3.out 2).trans rfl; have s3_3 : World.cell? _ ⟨w.heap.size + 1, 3, none⟩ = some (.int .i64 cl) := (blk_cell S3.out 3).trans rfl; have s3_4 : World.cell? _ ⟨w.heap.size + 1, 4, none⟩ = some (.int .i64 bk) := (blk_cell S3.out 4).trans rfl; have HB3 := Aside0.mk (below_step (w := w) (by repeat (first | (with_reducible first | exact HB2.out | apply below_alloc | apply pw_below_drewN | apply below_drew1) | exact HB2.out)) hb); clear hb; simp only []; go_at_K
  go_wp2
  go_returns
  exact ⟨rfl, by repeat (first | exact HB3.out | apply below_alloc | apply pw_below_drewN | apply below_drew1)⟩
def latch_Fine.f (L C B : Int) (la ou : Bool) (st cl bk : Int) : Option Bool :=
  (latch_Right.f L C B).bind fun t => if t = true then (match la, ou with
    | false, true => some false
    | true, true => latch_out_fine.f true true st cl bk L C B
    | true, false => latch_latched_fine.f true false st cl bk L C B
    | false, false => latch_in_fine.f false false st cl bk L C B) else some false
theorem latch_Fine.calls (a0_0 a0_1 a0_2 : Int) (a1_0 a1_1 : Bool) (a1_2 a1_3 a1_4 : Int) (r : Bool) (w : World) (h : latch_Fine.f a0_0 a0_1 a0_2 a1_0 a1_1 a1_2 a1_3 a1_4 = some r) :
    Calls Try.prog 69 #[.agg #[.int .i64 a0_0, .int .i64 a0_1, .int .i64 a0_2], .agg #[.bool a1_0, .bool a1_1, .int .i64 a1_2, .int .i64 a1_3, .int .i64 a1_4]] w fun e w' => e = .returned (.bool r) ∧ Below w.heap.size w w' := by
  unfold latch_Fine.f at h
  obtain ⟨t, ht, h⟩ := Option.bind_eq_some_iff.mp h
  cases t
  · obtain rfl : false = r := by simpa using h
    cases a1_0 <;> cases a1_1
    · exact fine_in_no _ _ _ _ _ _ ht _
    · exact fine_nil_no _ _ _ _ _ _ ht _
    · exact fine_latched_no _ _ _ _ _ _ ht _
    · exact fine_out_no _ _ _ _ _ _ ht _
  · simp only [if_true] at h
    cases a1_0 <;> cases a1_1
    · exact fine_in_yes _ _ _ _ _ _ ht _ h _
    · obtain rfl : false = r := by simpa using h
      exact fine_nil_yes _ _ _ _ _ _ ht _
    · exact fine_latched_yes _ _ _ _ _ _ ht _ h _
    · exact fine_out_yes _ _ _ _ _ _ ht _ h _
def latch_in_next.f (a b : Bool) (st cl bk L C B : Int) (t : Bool) : Option (Bool × Bool × Int × Int × Int × Int) :=
  if t = true then (if wrap64 (st + 1) < L then some (a, b, wrap64 (st + 1), cl, bk, 0) else if bk = B then some (true, true, wrap64 (st + 1), cl, bk, 3) else some (true, false, wrap64 (st + 1), cl, bk, 1)) else some (a, b, 0, cl, bk, 0)
theorem latch_in_next.calls (a0_0 a0_1 : Bool) (a0_2 a0_3 a0_4 a1_0 a1_1 a1_2 : Int) (a2 : Bool) (r1 r2 : Bool) (r3 r4 r5 r6 : Int) (w : World) (h : latch_in_next.f a0_0 a0_1 a0_2 a0_3 a0_4 a1_0 a1_1 a1_2 a2 = some (r1, r2, r3, r4, r5, r6)) :
    Calls Try.prog 152 #[.agg #[.bool a0_0, .bool a0_1, .int .i64 a0_2, .int .i64 a0_3, .int .i64 a0_4], .agg #[.int .i64 a1_0, .int .i64 a1_1, .int .i64 a1_2], .bool a2] w fun e w' => e = .returned (.tuple #[.agg #[.bool r1, .bool r2, .int .i64 r3, .int .i64 r4, .int .i64 r5], .int .i64 r6]) ∧ Below w.heap.size w w' := by
  unfold latch_in_next.f at h
  cases a2
  · simp only [Bool.false_eq_true, if_false, Option.some.injEq, Prod.mk.injEq] at h
    obtain ⟨rfl, rfl, rfl, rfl, rfl, rfl⟩ := h
    exact in_next_no _ _ _ _ _ _ _ _ _
  · simp only [if_true] at h
    by_cases h1 : wrap64 (a0_2 + 1) < a1_0
    · rw [if_pos h1] at h
      simp only [Option.some.injEq, Prod.mk.injEq] at h
      obtain ⟨rfl, rfl, rfl, rfl, rfl, rfl⟩ := h
      exact in_next_few _ _ _ _ _ _ _ _ _ h1
    · rw [if_neg h1] at h
      by_cases h2 : a0_4 = a1_2
      · subst h2
        simp only [if_true, Option.some.injEq, Prod.mk.injEq] at h
        obtain ⟨rfl, rfl, rfl, rfl, rfl, rfl⟩ := h
        exact in_next_out _ _ _ _ _ _ _ _ h1
      · rw [if_neg h2] at h
        simp only [Option.some.injEq, Prod.mk.injEq] at h
        obtain ⟨rfl, rfl, rfl, rfl, rfl, rfl⟩ := h
        exact in_next_latched _ _ _ _ _ _ _ _ _ h1 h2

theorem size_new2 (w : World) (o o' o'' : Obj) : (((w.alloc o).alloc o').alloc o'').heap[w.heap.size + 1 + 1]? = some o'' := by
  have e : (w.alloc o).heap.size = w.heap.size + 1 := by show (w.heap.push o).size = _; simp
  have := size_new (w.alloc o) o' o''
  rwa [e] at this
set_option maxRecDepth 100000 in
set_option maxHeartbeats 8000000 in
theorem next_bad (L C B st cl bk : Int) (la ou t : Bool) (w : World) (h : latch_Fine.f L C B la ou st cl bk = some false) :
    Calls Try.prog 68 #[.agg #[.int .i64 L, .int .i64 C, .int .i64 B], .agg #[.bool la, .bool ou, .int .i64 st, .int .i64 cl, .int .i64 bk], .bool t] w fun e w' => e = .returned (.tuple #[.agg #[.bool false, .bool false, .int .i64 0, .int .i64 0, .int .i64 0], .int .i64 0, .int .i64 1]) ∧ Below w.heap.size w w' := by
  have hu23 := Try.underlying23
  have hu28 := Try.underlying28
  have H := Aside0.mk h
  clear h
  go_enter Try.func68, Try.ntmps68
  go_wp2_with (first
    | ((with_reducible refine gate_dst (N := 3) rfl ?_); refine box_event ?hg (N := 3) ?hd (cs := #[.int .i64 L, .int .i64 C, .int .i64 B]) (t := 23) ?hr ?_; (case hd => rfl); (case hg => rfl); (case hr => first | (go_simp; done) | (go_simp; rfl)); intro g0 hg u1 hbox hb; have HB1 := Aside0.mk (below_step (w := w) (by repeat (first | (with_reducible first | exact Below.refl _ _ | apply below_alloc | apply pw_below_drewN | apply below_drew1) | exact Below.refl _ _)) hb); have R1 := Aside0.mk hbox; have Gg0 := Aside0.mk (by rw [hg]; exact below_size (by repeat (first | (with_reducible first | exact Below.refl _ _ | apply below_alloc | apply pw_below_drewN | apply below_drew1) | exact Below.refl _ _)) : w.heap.size ≤ g0); clear hb hbox hg)
    | ((with_reducible refine gate_dst (N := 4) rfl ?_); refine box_event ?hg (N := 4) ?hd (cs := #[.bool la, .bool ou, .int .i64 st, .int .i64 cl, .int .i64 bk]) (t := 28) ?hr ?_; (case hd => rfl); (case hg => rfl); (case hr => first | (go_simp; done) | (go_simp; rfl)); intro g1 hg u2 hbox hb; have R2 := Aside0.mk (blk_below (g := g0) (o := .cells #[.int .i64 L, .int .i64 C, .int .i64 B] 23 (0, 0)) (by (with_reducible repeat (first | refine blk_drewN ?_ _ | refine blk_drew ?_ | refine blk_alloc ?_ _)); exact R1.out) hb); have lt_g0_g1 := Aside0.mk (by rw [hg]; exact blk_lt (g := g0) (o := .cells #[.int .i64 L, .int .i64 C, .int .i64 B] 23 (0, 0)) (by (with_reducible repeat (first | refine blk_drewN ?_ _ | refine blk_drew ?_ | refine blk_alloc ?_ _)); exact R1.out) : g0 < g1); have HB2 := Aside0.mk (below_step (w := w) (by repeat (first | (with_reducible first | exact HB1.out | apply below_alloc | apply pw_below_drewN | apply below_drew1) | exact HB1.out)) hb); have S2 := Aside0.mk hbox; have Gg1 := Aside0.mk (by rw [hg]; exact below_size (by repeat (first | (with_reducible first | exact HB1.out | apply below_alloc | apply pw_below_drewN | apply below_drew1) | exact HB1.out)) : w.heap.size ≤ g1); clear hb hbox hg)
    | ((with_reducible refine gate_dst (N := 6) rfl ?_); refine box_event ?hg (N := 6) ?hd (cs := #[.bool false, .bool false, .int .i64 0, .int .i64 0, .int .i64 0]) (t := 28) ?hr ?_; (case hd => rfl); (case hg => rfl); (case hr => first | (go_simp; done) | (go_simp; rfl)); intro g2 hg u3 hbox hb; have R3 := Aside0.mk (blk_below (g := g0) (o := .cells #[.int .i64 L, .int .i64 C, .int .i64 B] 23 (0, 0)) (by (with_reducible repeat (first | refine blk_drewN ?_ _ | refine blk_drew ?_ | refine blk_alloc ?_ _)); exact R2.out) hb); have lt_g0_g2 := Aside0.mk (by rw [hg]; exact blk_lt (g := g0) (o := .cells #[.int .i64 L, .int .i64 C, .int .i64 B] 23 (0, 0)) (by (with_reducible repeat (first | refine blk_drewN ?_ _ | refine blk_drew ?_ | refine blk_alloc ?_ _)); exact R2.out) : g0 < g2); have S3 := Aside0.mk (blk_below (g := g1) (o := .cells #[.bool la, .bool ou, .int .i64 st, .int .i64 cl, .int .i64 bk] 28 (0, 0)) (by (with_reducible repeat (first | refine blk_drewN ?_ _ | refine blk_drew ?_ | refine blk_alloc ?_ _)); exact S2.out) hb); have lt_g1_g2 := Aside0.mk (by rw [hg]; exact blk_lt (g := g1) (o := .cells #[.bool la, .bool ou, .int .i64 st, .int .i64 cl, .int .i64 bk] 28 (0, 0)) (by (with_reducible repeat (first | refine blk_drewN ?_ _ | refine blk_drew ?_ | refine blk_alloc ?_ _)); exact S2.out) : g1 < g2); have HB3 := Aside0.mk (below_step (w := w) (by repeat (first | (with_reducible first | exact HB2.out | apply below_alloc | apply pw_below_drewN | apply below_drew1) | exact HB2.out)) hb); have N3 := Aside0.mk hbox; have Gg2 := Aside0.mk (by rw [hg]; exact below_size (by repeat (first | (with_reducible first | exact HB2.out | apply below_alloc | apply pw_below_drewN | apply below_drew1) | exact HB2.out)) : w.heap.size ≤ g2); clear hb hbox hg; have r3_0 : World.cell? _ ⟨g0, 0, none⟩ = some (.int .i64 L) := (blk_cell R3.out 0).trans rfl; have r3_1 : World.cell? _ ⟨g0, 1, none⟩ = some (.int .i64 C) := (blk_cell R3.out 1).trans rfl; have r3_2 : World.cell? _ ⟨g0, 2, none⟩ = some (.int .i64 B) := (blk_cell R3.out 2).trans rfl; have s3_0 : World.cell? _ ⟨g1, 0, none⟩ = some (.bool la) := (blk_cell S3.out 0).trans rfl; have s3_1 : World.cell? _ ⟨g1, 1, none⟩ = some (.bool ou) := (blk_cell S3.out 1).trans rfl; have s3_2 : World.cell? _ ⟨g1, 2, none⟩ = some (.int .i64 st) := (blk_cell S3.out 2).trans rfl; have s3_3 : World.cell? _ ⟨g1, 3, none⟩ = some (.int .i64 cl) := (blk_cell S3.out 3).trans rfl; have s3_4 : World.cell? _ ⟨g1, 4, none⟩ = some (.int .i64 bk) := (blk_cell S3.out 4).trans rfl)
    | (go_at_call 69; refine (latch_Fine.calls _ _ _ _ _ _ _ _ _ _ H.out).mono ?_; rintro e w1 ⟨rfl, hb⟩; have R4 := Aside0.mk (blk_below (g := g0) (o := .cells #[.int .i64 L, .int .i64 C, .int .i64 B] 23 (0, 0)) (by (with_reducible repeat (first | refine blk_drewN ?_ _ | refine blk_drew ?_ | refine blk_alloc ?_ _)); exact R3.out) hb); have S4 := Aside0.mk (blk_below (g := g1) (o := .cells #[.bool la, .bool ou, .int .i64 st, .int .i64 cl, .int .i64 bk] 28 (0, 0)) (by (with_reducible repeat (first | refine blk_drewN ?_ _ | refine blk_drew ?_ | refine blk_alloc ?_ _)); exact S3.out) hb); have N4 := Aside0.mk (blk_below (g := g2) (o := .cells #[.bool false, .bool false, .int .i64 0, .int .i64 0, .int .i64 0] 28 (0, 0)) (by (with_reducible repeat (first | refine blk_drewN ?_ _ | refine blk_drew ?_ | refine blk_alloc ?_ _)); exact N3.out) hb); have n4_0 : World.cell? _ ⟨g2, 0, none⟩ = some (.bool false) := (blk_cell N4.out 0).trans rfl; have fn4_0 : World.frozen? _ ⟨g2, 0, none⟩ = false := blk_frozen N4.out 0; have n4_1 : World.cell? _ ⟨g2, 1, none⟩ = some (.bool false) := (blk_cell N4.out 1).trans rfl; have fn4_1 : World.frozen? _ ⟨g2, 1, none⟩ = false := blk_frozen N4.out 1; have n4_2 : World.cell? _ ⟨g2, 2, none⟩ = some (.int .i64 0) := (blk_cell N4.out 2).trans rfl; have fn4_2 : World.frozen? _ ⟨g2, 2, none⟩ = false := blk_frozen N4.out 2; have n4_3 : World.cell? _ ⟨g2, 3, none⟩ = some (.int .i64 0) := (blk_cell N4.out 3).trans rfl; have fn4_3 : World.frozen? _ ⟨g2, 3, none⟩ = false := blk_frozen N4.out 3; have n4_4 : World.cell? _ ⟨g2, 4, none⟩ = some (.int .i64 0) := (blk_cell N4.out 4).trans rfl; have fn4_4 : World.frozen? _ ⟨g2, 4, none⟩ = false := blk_frozen N4.out 4; have HB4 := Aside0.mk (below_step (w := w) (by repeat (first | (with_reducible first | exact HB3.out | apply below_alloc | apply pw_below_drewN | apply below_drew1) | exact HB3.out)) hb); clear hb))
  refine bodyPost_ret (results_ctt rfl _ _ g2 28 #[.bool false, .bool false, .int .i64 0, .int .i64 0, .int .i64 0] (0, 0) _ rfl (by (with_reducible repeat (first | refine blk_drewN ?_ _ | refine blk_drew ?_ | refine blk_alloc ?_ _)); refine blk_put (cs := #[.bool false, .bool false, .int .i64 0, .int .i64 0, .int .i64 0]) ?_ 4 _ rfl; (with_reducible repeat (first | refine blk_drewN ?_ _ | refine blk_drew ?_ | refine blk_alloc ?_ _)); refine blk_put (cs := #[.bool false, .bool false, .int .i64 0, .int .i64 0, .int .i64 0]) ?_ 3 _ rfl; (with_reducible repeat (first | refine blk_drewN ?_ _ | refine blk_drew ?_ | refine blk_alloc ?_ _)); refine blk_put (cs := #[.bool false, .bool false, .int .i64 0, .int .i64 0, .int .i64 0]) ?_ 2 _ rfl; (with_reducible repeat (first | refine blk_drewN ?_ _ | refine blk_drew ?_ | refine blk_alloc ?_ _)); refine blk_put (cs := #[.bool false, .bool false, .int .i64 0, .int .i64 0, .int .i64 0]) ?_ 1 _ rfl; (with_reducible repeat (first | refine blk_drewN ?_ _ | refine blk_drew ?_ | refine blk_alloc ?_ _)); refine blk_put (cs := #[.bool false, .bool false, .int .i64 0, .int .i64 0, .int .i64 0]) ?_ 0 _ rfl; (with_reducible repeat (first | refine blk_drewN ?_ _ | refine blk_drew ?_ | refine blk_alloc ?_ _)); exact N4.out) Try.underlying28 rfl (by kernel_rfl)) rfl ?_
  exact ⟨rfl, by repeat (first | exact HB4.out | apply below_alloc | apply pw_below_drewN | apply below_drew1 | refine below_set ?_ Gg2.out)⟩
end Go.Proofs.Ytdhmefdnpiidbaa.Lat

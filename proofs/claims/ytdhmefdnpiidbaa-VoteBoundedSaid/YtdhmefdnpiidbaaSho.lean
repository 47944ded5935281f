/- Short names for four steps that a printed walk takes at every event: a row, a block, a slice that came in, and what lay there, carried over what was laid since. -/
import Derived.Test.YtdhmefdnpiidbaaWLast
import Derived.Test.YtdhmefdnpiidbaaWMore
namespace Go.Proofs.Ytdhmefdnpiidbaa.Sho
open Go Go.RowKit Go.Proofs.YtdhmefdnpiidbaaW.PrintWords Go.Proofs.YtdhmefdnpiidbaaW.PrintLast Go.Proofs.YtdhmefdnpiidbaaW.PrintMore

theorem oR {P Q : Prop} (q : Q) (h : Q → P := by intro q_; (with_reducible repeat (first | apply Kd.R_alloc | apply Kd.R_drewN | apply Kd.R_drew)); exact q_) : P := h q
theorem oK {P Q : Prop} (q : Q) (h : Q → P := by intro q_; (with_reducible repeat (first | refine blk_drewN ?_ _ | refine blk_drew ?_ | refine blk_alloc ?_ _)); exact q_) : P := h q
theorem oC {P Q : Prop} (q : Q) (h : Q → P := by intro q_; repeat (first | (with_reducible exact q_) | (with_reducible refine Kd.C_alloc ?_ _) | (with_reducible refine Kd.C_drewN ?_ _) | (with_reducible refine Kd.C_drew ?_) | exact q_)) : P := h q
theorem oB {P Q : Prop} (q : Q) (h : Q → P := by intro q_; repeat (first | (with_reducible first | exact q_ | apply below_alloc | apply pw_below_drewN | apply below_drew1) | exact q_)) : P := h q
theorem oB1 {P Q A : Prop} (q : Q) (a : A) (h : Q → A → P := by intro q_ a_; repeat (first | (with_reducible first | exact q_ | apply below_alloc | apply pw_below_drewN | apply below_drew1 | refine below_set ?_ a_) | exact q_)) : P := h q a
theorem oB2 {P Q A B : Prop} (q : Q) (a : A) (b : B) (h : Q → A → B → P := by intro q_ a_ b_; repeat (first | (with_reducible first | exact q_ | apply below_alloc | apply pw_below_drewN | apply below_drew1 | refine below_set ?_ a_ | refine below_set ?_ b_) | exact q_)) : P := h q a b
theorem oB3 {P Q A B C : Prop} (q : Q) (a : A) (b : B) (c : C) (h : Q → A → B → C → P := by intro q_ a_ b_ c_; repeat (first | (with_reducible first | exact q_ | apply below_alloc | apply pw_below_drewN | apply below_drew1 | refine below_set ?_ a_ | refine below_set ?_ b_ | refine below_set ?_ c_) | exact q_)) : P := h q a b c
theorem oB4 {P Q A B C D : Prop} (q : Q) (a : A) (b : B) (c : C) (d : D) (h : Q → A → B → C → D → P := by intro q_ a_ b_ c_ d_; repeat (first | (with_reducible first | exact q_ | apply below_alloc | apply pw_below_drewN | apply below_drew1 | refine below_set ?_ a_ | refine below_set ?_ b_ | refine below_set ?_ c_ | refine below_set ?_ d_) | exact q_)) : P := h q a b c d
theorem putR : (∀ (a : Act) (d : Tmp) (v : Value), a.put (some d) v = { tmps := a.tmps.setIfInBounds d v, defers := a.defers }) ∧ (∀ (a : Act) (v : Value), a.put none v = a) ∧ (∀ (l : List Value) (i : Nat) (v : Value), l.toArray.setIfInBounds i v = (l.set i v).toArray) ∧
    (∀ (x y : Value) (l : List Value), (x :: l).set 0 y = y :: l) ∧ (∀ (x y : Value) (l : List Value) (n : Nat), (x :: l).set (n + 1) y = x :: l.set n y) :=
  ⟨fun _ _ _ => rfl, fun _ _ => rfl, fun l i v => by simp, fun _ _ _ => rfl, fun _ _ _ _ => rfl⟩
end Go.Proofs.Ytdhmefdnpiidbaa.Sho

/- The plain law LatchUnharmed: without a trip, or with few in a row, it is in; behind so many clean cycles it is in, or out for good. -/
import Derived.Test.YtdhmefdnpiidbaaPLatchUnharmedx3
import Derived.Test.YtdhmefdnpiidbaaLatP
import Derived.Test.YtdhmefdnpiidbaaIntsP
namespace Go.Proofs.Ytdhmefdnpiidbaa.Pure
open Go.RowKit Go.Proofs.YtdhmefdnpiidbaaW.PrintWords Go.Proofs.YtdhmefdnpiidbaaW.PrintMore Go.Proofs.YtdhmefdnpiidbaaW.PrintLast
open Go.Proofs.Ytdhmefdnpiidbaa.Base Go.Proofs.Ytdhmefdnpiidbaa.Lat Go.Proofs.Ytdhmefdnpiidbaa.LatR Go.Proofs.Ytdhmefdnpiidbaa.LatA Go.Proofs.Ytdhmefdnpiidbaa.PLatchUnharmed
set_option linter.unusedVariables false
set_option linter.unusedSimpArgs false

theorem ev_alive15 : Ev (fun k => rudderlaw15_alive.f k) true := by
  have hr : RightR 2 2 1 := by unfold RightR; omega
  have e1 := run_ev hr [true, false, true, true, false, true, false, false, true, true, false, false] (by simp)
  have e2 : latch_Next.f 2 2 1 false true 0 0 0 true = some (false, false, 0, 0, 0, 0, 1) := by kernel_rfl
  have e3 : Ev (fun k => latch_Run.f k 0 0 0 []) (false, false, 0, 0, 0, [], 1) := ⟨0, fun k _ => by
    unfold latch_Run.f
    have : latch_Right.f 0 0 0 = some false := by kernel_rfl
    rw [this]; rfl⟩
  have e4 : latch_Next.f 2 2 1 false false 1 0 0 true = some (true, false, 2, 0, 0, 1, 0) := by kernel_rfl
  have e5 : latch_Fine.f 2 2 1 true true 2 0 1 = some true := by kernel_rfl
  have er : Lat.runN 2 2 1 St0 [true, false, true, true, false, true, false, false, true, true, false, false] = (⟨true, true, 2, 0, 1⟩, [0, 0, 0, 1, 0, 0, 0, 2, 0, 3, 0, 0]) := by rfl
  rw [er] at e1
  unfold rudderlaw15_alive.f
  refine Ev.bind e1 ?_
  rw [e2, e4]
  simp only [Option.bind_some]
  refine Ev.bind e3 ?_
  simp only [if_true, beq_self_eq_true, Bool.and_self, Bool.not_false]
  refine Ev.bind (IntsP.ev_ints _ _ (by simp)) ?_
  rw [decide_eq_true rfl, e5, right_yes hr]
  exact Ev.now _

theorem LatchUnharmed (L C B : Int) (l : List Bool) (n : Int) (hn : 0 ≤ n ∧ n ≤ 255) : ∃ k, rudderlaw15_LatchUnharmed.f k L C B l n = some true := by
  refine Ev.rounds (g := fun k => rudderlaw15_LatchUnharmed.f k L C B l n) ?_
  have alive0 : Ev (fun k => rudderlaw15_LatchUnharmed.j0 k l n true L C B) true := by
    refine Ev.step (f := fun k => (rudderlaw15_alive.f k).bind fun t => some t) (fun k => by rw [rudderlaw15_LatchUnharmed.j0, if_pos rfl]) ?_
    exact Ev.bind ev_alive15 (Ev.now _)
  unfold rudderlaw15_LatchUnharmed.f
  rcases (right_some L C B).symm with h | ⟨h, hr⟩
  · rw [h]
    simpa using alive0
  rw [h]
  simp only [Option.bind_some, if_true]
  by_cases h300 : (l.length : Int) > 300
  · rw [decide_eq_true h300]; exact alive0
  rw [decide_eq_false h300]
  have hr' := hr
  unfold RightR at hr'
  have wn : wrap64 n = n := wrap_in _ (by omega)
  have c0 := run_no hr n.toNat
  have hc := calm_run hr l 0 (by omega) (by omega)
  have hcl := calm_len L l 0
  -- the list of calm cycles
  have hl0 : ∀ (d i : Nat) (acc : List Bool) (row : Int), i + d = l.length → acc.length = i → 0 ≤ row → row < L → calmN L 0 l = (acc ++ (calmN L row (l.drop i)).1, (calmN L row (l.drop i)).2) →
      Ev (fun k => rudderlaw15_LatchUnharmed.l0 k l (calmN L 0 l).1 (calmN L 0 l).2 (l.length : Int) L C B) true → Ev (fun k => rudderlaw15_LatchUnharmed.l0 k l acc row (i : Int) L C B) true := by
    intro d
    induction d with
    | zero =>
      intro i acc row hi ha _ _ he hend
      rw [List.drop_of_length_le (by omega)] at he
      simp only [calmN, List.append_nil] at he
      rw [he] at hend
      have : (i : Int) = (l.length : Int) := by omega
      rw [this]; exact hend
    | succ d ih =>
      intro i acc row hi ha h0 h1 he hend
      have hlt : i < l.length := by omega
      have hd : l.drop i = l[i] :: l.drop (i + 1) := List.drop_eq_getElem_cons hlt
      have hv : rdOf false l (i : Int) = l[i] := by simp [rdOf, hlt]
      have q1 : (i : Int) < (l.length : Int) := by clear he hend ih hd hv; omega
      have q2 : (0 : Int) ≤ (i : Int) := Int.natCast_nonneg i
      have q3 : acc.length < 140737488355328 := by clear he hend ih hd hv q1 q2; omega
      have w1 : wrap64 (row + 1) = row + 1 := wrap_in _ (by omega)
      have w2 : wrap64 ((i : Int) + 1) = ((i + 1 : Nat) : Int) := by rw [wrap_in _ (by omega)]; omega
      rw [hd] at he
      simp only [calmN] at he
      by_cases ht : l[i] = true
      · by_cases hw : row + 1 < L
        · rw [if_pos ⟨ht, hw⟩] at he
          refine Ev.step (f := fun k => rudderlaw15_LatchUnharmed.l0 k l (acc ++ [true]) (row + 1) ((i + 1 : Nat) : Int) L C B) (fun k => ?_) (ih (i + 1) (acc ++ [true]) (row + 1) (by omega) (by simp [ha]) (by omega) hw (by rw [he]; simp) hend)
          rw [rudderlaw15_LatchUnharmed.l0, if_pos q1, if_pos q2, hv, if_pos ht, w1, w2, if_pos hw, if_pos q3, decide_eq_true hw]
        · rw [if_neg (fun h => hw h.2)] at he
          refine Ev.step (f := fun k => rudderlaw15_LatchUnharmed.l0 k l (acc ++ [false]) 0 ((i + 1 : Nat) : Int) L C B) (fun k => ?_) (ih (i + 1) (acc ++ [false]) 0 (by omega) (by simp [ha]) (by omega) (by omega) (by rw [he]; simp) hend)
          rw [rudderlaw15_LatchUnharmed.l0, if_pos q1, if_pos q2, hv, if_pos ht, w1, w2, if_neg hw, if_pos q3, decide_eq_false hw]
      · rw [if_neg (fun h => ht h.1)] at he
        refine Ev.step (f := fun k => rudderlaw15_LatchUnharmed.l0 k l (acc ++ [false]) 0 ((i + 1 : Nat) : Int) L C B) (fun k => ?_) (ih (i + 1) (acc ++ [false]) 0 (by omega) (by simp [ha]) (by omega) (by omega) (by rw [he]; simp) hend)
        rw [rudderlaw15_LatchUnharmed.l0, if_pos q1, if_pos q2, hv, if_neg ht, w2, if_pos q3]
  -- behind the loop over what happened
  have hend1 : ∀ (d i : Nat), i + d = l.length → Ev (fun k => rudderlaw15_LatchUnharmed.l1 k l (calmN L 0 l).2 (List.replicate l.length 0) 0 (i : Int) L C B false false (calmN L 0 l).2 0 0) true := by
    intro d
    induction d with
    | zero =>
      intro i hi
      refine Ev.step (f := fun k => (latch_Run.f k L C B (l ++ List.replicate C.toNat false)).bind fun bt147 => ((rudderlaw15_alive.f k).bind fun t157 => (if t157 = true then (if bt147.2.2.2.2.2.2 = 0 then (if bt147.2.1 = true then (some true) else (if bt147.1 = true then (none) else (some (bt147.2.2.1 == 0)))) else (none)) else (none)))) (fun k => ?_) ?_
      · rw [rudderlaw15_LatchUnharmed.l1, if_neg (by simp; omega)]
        simp only [Option.bind_some, List.nil_append, List.length_nil]
        rw [if_pos (by omega), if_pos (by omega), if_pos (by omega)]
        simp
      · refine Ev.bind (run_ev hr _ (by simp; omega)) ?_
        refine Ev.bind ev_alive15 ?_
        have hrest := rested hr _ (run_fine hr l St0 (fine0 hr)) C.toNat (by omega)
        rw [run_append]
        generalize (Lat.runN L C B (Lat.runN L C B St0 l).1 (List.replicate C.toNat false)).1 = s at hrest ⊢
        obtain ⟨la, ou, st, cl, bk⟩ := s
        simp only [if_true]
        rcases hrest with h | ⟨h, h'⟩
        · simp only at h
          rw [h]; exact Ev.now _
        · simp only at h h'
          rw [h, h']
          cases ou
          · exact Ev.now _
          · exact Ev.now _
    | succ d ih =>
      intro i hi
      have w2 : wrap64 ((i : Int) + 1) = ((i + 1 : Nat) : Int) := by rw [wrap_in _ (by omega)]; omega
      refine Ev.step (f := fun k => rudderlaw15_LatchUnharmed.l1 k l (calmN L 0 l).2 (List.replicate l.length 0) 0 ((i + 1 : Nat) : Int) L C B false false (calmN L 0 l).2 0 0) (fun k => ?_) (ih (i + 1) (by omega))
      have hv : rd (List.replicate l.length 0) (i : Int) = 0 := by simp [rd, List.getElem?_replicate, show i < l.length by omega]
      rw [rudderlaw15_LatchUnharmed.l1, if_pos (by simp; omega), if_pos (by omega), hv, if_pos rfl, w2]
  refine Ev.step (f := fun k => (latch_Run.f k L C B (List.replicate n.toNat false)).bind fun bt107 => (if bt107.2.2.2.2.2.2 = 0 then (rudderlaw15_LatchUnharmed.j1 k l (bt107.1 || (bt107.2.1 || (!(bt107.2.2.1 == 0) || (!(bt107.2.2.2.1 == 0) || (!(bt107.2.2.2.2.1 == 0)))))) L C B) else (rudderlaw15_LatchUnharmed.j1 k l true L C B))) (fun k => ?_) ?_
  · rw [rudderlaw15_LatchUnharmed.j0, if_neg (by simp), wn, if_pos (by omega), if_pos (by omega)]
  refine Ev.bind (run_ev hr _ (by simp; omega)) ?_
  rw [c0]
  simp only [St0, if_true, beq_self_eq_true, Bool.not_true, Bool.or_self]
  refine Ev.step (f := fun k => rudderlaw15_LatchUnharmed.l0 k l [] 0 ((0 : Nat) : Int) L C B) (fun k => by rw [rudderlaw15_LatchUnharmed.j1, if_neg (by simp)]; rfl) ?_
  refine hl0 l.length 0 [] 0 (by omega) rfl (by omega) (by omega) (by simp) ?_
  refine Ev.step (f := fun k => (latch_Run.f k L C B (calmN L 0 l).1).bind fun bt127 => (rudderlaw15_LatchUnharmed.l1 k l (calmN L 0 l).2 bt127.2.2.2.2.2.1 bt127.2.2.2.2.2.2 0 L C B bt127.1 bt127.2.1 bt127.2.2.1 bt127.2.2.2.1 bt127.2.2.2.2.1)) (fun k => by rw [rudderlaw15_LatchUnharmed.l0, if_neg (by omega)]) ?_
  refine Ev.bind (run_ev hr _ (by rw [hcl]; omega)) ?_
  have : Lat.runN L C B St0 (calmN L 0 l).1 = (⟨false, false, (calmN L 0 l).2, 0, 0⟩, List.replicate l.length 0) := hc
  rw [this]
  exact hend1 l.length 0 (by omega)
end Go.Proofs.Ytdhmefdnpiidbaa.Pure

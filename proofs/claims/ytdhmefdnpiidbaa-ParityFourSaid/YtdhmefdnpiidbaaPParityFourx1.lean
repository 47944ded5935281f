/- For each Go function named below: a Lean function with the same answers, and the proof that the call answers so wherever that function does; written by a program of this session (myprint.py) out of the translation. -/
import Derived.Test.YtdhmefdnpiidbaaPParityFourx0
namespace Go.Proofs.Ytdhmefdnpiidbaa.PParityFour
open Go.RowKit Go.Proofs.YtdhmefdnpiidbaaW.PrintWords Go.Proofs.YtdhmefdnpiidbaaW.PrintLast Go.Proofs.YtdhmefdnpiidbaaW.PrintMore Go.Proofs.Ytdhmefdnpiidbaa.Base Go.Proofs.Ytdhmefdnpiidbaa.Ord Go.Proofs.Ytdhmefdnpiidbaa.Par Go.Proofs.Ytdhmefdnpiidbaa.Par1
attribute [local go_sem] max2_int min2_int max_two min_two max_three min_three max_four min_four   -- for this text's walks alone
set_option linter.unusedVariables false
set_option linter.unusedSimpArgs false

-- given: function 54 (rudderlaw13_alive)

-- given: function 57 (parity_Suspect)

/-! ### rudderlaw13_ParityFour: function 13 -/
def rudderlaw13_ParityFour.j0 : Nat → Int → Int → Int → Int → Int → List Int → Bool → Option (Bool)
  | 0, _, _, _, _, _, _, _ => none
  | k + 1, x11, x12, x13, x14, x15, x16, x94 => if x94 = true then ((rudderlaw13_alive.f k).bind fun t129 => (if t129 = true then ((parity_Suspect.f k x16 x13).bind fun t130 => (some (t130 == x14))) else (none))) else (if (wrap64 ((mx x15 x11) - (mn x15 x12))) ≤ x13 then ((rudderlaw13_alive.f k).bind fun t131 => (if t131 = true then ((parity_Suspect.f k x16 x13).bind fun t132 => (some (t132 == (-1)))) else (none))) else ((rudderlaw13_alive.f k).bind fun t133 => (some t133)))
def rudderlaw13_ParityFour.f (k : Nat) (a0 : Int) (a1_0 : Int) (a1_1 : Int) (a1_2 : Int) (a2_0 : Int) (a2_1 : Int) : Option (Bool) := (some (([wrap64 ((wrap64 (a0)) + (wrap64 (a1_0))), wrap64 ((wrap64 (a0)) + (wrap64 (a1_1))), wrap64 ((wrap64 (a0)) + (wrap64 (a1_2)))] : List Int) : List Int)).bind fun y103 => ((some (([] : List Int) : List Int)).bind fun y106 => (if 0 ≤ (Int.tmod (wrap64 (a2_1)) 4) then (if (Int.tmod (wrap64 (a2_1)) 4) ≤ (y103.length : Int) then ((some (y103.take ((Int.tmod (wrap64 (a2_1)) 4) : Int).toNat : List Int)).bind fun y109 => (if y106.length + y109.length < 17592186044416 then ((some (y106 ++ y109 : List Int)).bind fun y113 => ((some (([wrap64 (a2_0)] : List Int) : List Int)).bind fun y116 => (if y113.length + y116.length < 17592186044416 then ((some (y113 ++ y116 : List Int)).bind fun y119 => ((some (y103.drop ((Int.tmod (wrap64 (a2_1)) 4) : Int).toNat : List Int)).bind fun y122 => (if y119.length + y122.length < 17592186044416 then ((some (y119 ++ y122 : List Int)).bind fun y126 => (if (wrap64 (a2_0)) > (wrap64 ((wrap64 ((wrap64 (a0)) + (mx (mx (wrap64 (a1_0)) (wrap64 (a1_1))) (wrap64 (a1_2))))) + (wrap64 ((wrap64 ((wrap64 (a0)) + (mx (mx (wrap64 (a1_0)) (wrap64 (a1_1))) (wrap64 (a1_2))))) - (wrap64 ((wrap64 (a0)) + (mn (mn (wrap64 (a1_0)) (wrap64 (a1_1))) (wrap64 (a1_2))))))))) then (rudderlaw13_ParityFour.j0 k (wrap64 ((wrap64 (a0)) + (mx (mx (wrap64 (a1_0)) (wrap64 (a1_1))) (wrap64 (a1_2))))) (wrap64 ((wrap64 (a0)) + (mn (mn (wrap64 (a1_0)) (wrap64 (a1_1))) (wrap64 (a1_2))))) (wrap64 ((wrap64 ((wrap64 (a0)) + (mx (mx (wrap64 (a1_0)) (wrap64 (a1_1))) (wrap64 (a1_2))))) - (wrap64 ((wrap64 (a0)) + (mn (mn (wrap64 (a1_0)) (wrap64 (a1_1))) (wrap64 (a1_2))))))) (Int.tmod (wrap64 (a2_1)) 4) (wrap64 (a2_0)) y126 true) else (rudderlaw13_ParityFour.j0 k (wrap64 ((wrap64 (a0)) + (mx (mx (wrap64 (a1_0)) (wrap64 (a1_1))) (wrap64 (a1_2))))) (wrap64 ((wrap64 (a0)) + (mn (mn (wrap64 (a1_0)) (wrap64 (a1_1))) (wrap64 (a1_2))))) (wrap64 ((wrap64 ((wrap64 (a0)) + (mx (mx (wrap64 (a1_0)) (wrap64 (a1_1))) (wrap64 (a1_2))))) - (wrap64 ((wrap64 (a0)) + (mn (mn (wrap64 (a1_0)) (wrap64 (a1_1))) (wrap64 (a1_2))))))) (Int.tmod (wrap64 (a2_1)) 4) (wrap64 (a2_0)) y126 (decide ((wrap64 (a2_0)) < (wrap64 ((wrap64 ((wrap64 (a0)) + (mn (mn (wrap64 (a1_0)) (wrap64 (a1_1))) (wrap64 (a1_2))))) - (wrap64 ((wrap64 ((wrap64 (a0)) + (mx (mx (wrap64 (a1_0)) (wrap64 (a1_1))) (wrap64 (a1_2))))) - (wrap64 ((wrap64 (a0)) + (mn (mn (wrap64 (a1_0)) (wrap64 (a1_1))) (wrap64 (a1_2)))))))))))))) else (none)))) else (none)))) else (none))) else (none)) else (none)))
theorem rudderlaw13_ParityFour.mono_l : ∀ k, (∀ y0 y1 y2 y3 y4 y5 y6, LeO (rudderlaw13_ParityFour.j0 k y0 y1 y2 y3 y4 y5 y6) (rudderlaw13_ParityFour.j0 (k + 1) y0 y1 y2 y3 y4 y5 y6))
  | 0 => fun _ _ _ _ _ _ _ r h => by simp [rudderlaw13_ParityFour.j0] at h
  | k + 1 => by
    have ih0 := rudderlaw13_ParityFour.mono_l k
    · intro y0 y1 y2 y3 y4 y5 y6
      unfold rudderlaw13_ParityFour.j0
      repeat' first
      | (with_reducible exact ih0 _ _ _ _ _ _ _)
      | (with_reducible exact parity_Suspect.mono _ _ _)
      | (with_reducible exact rudderlaw13_alive.mono _)
      | (with_reducible exact LeO.refl _)
      | (with_reducible exact LeO.none _)
      | (with_reducible refine LeO.ite ?_ ?_)
      | (with_reducible refine LeO.bind ?_ (fun _ => ?_))
      | exact ih0 _ _ _ _ _ _ _
      | exact parity_Suspect.mono _ _ _
      | exact rudderlaw13_alive.mono _
      | exact LeO.none _
      | refine LeO.ite ?_ ?_
      | refine LeO.bind ?_ (fun _ => ?_)
theorem rudderlaw13_ParityFour.mono : ∀ a0 a1 a2 a3 a4 a5 k, LeO (rudderlaw13_ParityFour.f k a0 a1 a2 a3 a4 a5) (rudderlaw13_ParityFour.f (k + 1) a0 a1 a2 a3 a4 a5) := by
  intro a0 a1 a2 a3 a4 a5 k
  have ih0 := rudderlaw13_ParityFour.mono_l k
  unfold rudderlaw13_ParityFour.f
  repeat' first
      | (with_reducible exact ih0 _ _ _ _ _ _ _)
      | (with_reducible exact parity_Suspect.mono _ _ _)
      | (with_reducible exact rudderlaw13_alive.mono _)
      | (with_reducible exact LeO.refl _)
      | (with_reducible exact LeO.none _)
      | (with_reducible refine LeO.ite ?_ ?_)
      | (with_reducible refine LeO.bind ?_ (fun _ => ?_))
      | exact ih0 _ _ _ _ _ _ _
      | exact parity_Suspect.mono _ _ _
      | exact rudderlaw13_alive.mono _
      | exact LeO.none _
      | refine LeO.ite ?_ ?_
      | refine LeO.bind ?_ (fun _ => ?_)
def rudderlaw13_ParityFour.T10 : Bool × List (List Nat × List Nat) := (true, [([], []), ([], []), ([], []), ([1, 2], [1, 2]), ([0, 3], [0, 3]), ([], []), ([5], [5]), ([4, 6, 4], [4, 6]), ([], []), ([], []), ([8, 9], [8, 9]), ([7, 10, 7], [7, 10]), ([11, 11, 0, 1, 2, 3, 4, 5, 6, 7, 8, 9, 10, 11], [11])])
def rudderlaw13_ParityFour.B10 : List Nat := [0, 0, 0, 6, 15, 0, 32, 127, 0, 0, 768, 2047, 4095]
theorem rudderlaw13_ParityFour.tab10 : rtab .any (opsOf Try.f13 10) = rudderlaw13_ParityFour.T10 := by kernel_rfl
theorem rudderlaw13_ParityFour.bits10 : waitsOk rudderlaw13_ParityFour.T10.2 rudderlaw13_ParityFour.B10 = true := by kernel_rfl
set_option maxHeartbeats 8000000 in
set_option maxRecDepth 100000 in
theorem rudderlaw13_ParityFour.calls (k : Nat) (a0 : Int) (a1_0 : Int) (a1_1 : Int) (a1_2 : Int) (a2_0 : Int) (a2_1 : Int) (r : Bool) (w : World) (h : rudderlaw13_ParityFour.f k a0 a1_0 a1_1 a1_2 a2_0 a2_1 = some r) :
    Calls Try.prog 13 #[.int .i32 a0, .agg #[.int .u16 a1_0, .int .u16 a1_1, .int .u16 a1_2], .agg #[.int .i32 a2_0, .int .u8 a2_1]] w fun e w' => e = .returned (.bool r) ∧ Below w.heap.size w w' := by
  have hu44 := Try.underlying44
  have hu87 := Try.underlying87
  have HB := Aside0.mk (Below.refl w.heap.size w)
  have H : ((some (([wrap64 ((wrap64 (a0)) + (wrap64 (a1_0))), wrap64 ((wrap64 (a0)) + (wrap64 (a1_1))), wrap64 ((wrap64 (a0)) + (wrap64 (a1_2)))] : List Int) : List Int)).bind fun y103 => ((some (([] : List Int) : List Int)).bind fun y106 => (if 0 ≤ (Int.tmod (wrap64 (a2_1)) 4) then (if (Int.tmod (wrap64 (a2_1)) 4) ≤ (y103.length : Int) then ((some (y103.take ((Int.tmod (wrap64 (a2_1)) 4) : Int).toNat : List Int)).bind fun y109 => (if y106.length + y109.length < 17592186044416 then ((some (y106 ++ y109 : List Int)).bind fun y113 => ((some (([wrap64 (a2_0)] : List Int) : List Int)).bind fun y116 => (if y113.length + y116.length < 17592186044416 then ((some (y113 ++ y116 : List Int)).bind fun y119 => ((some (y103.drop ((Int.tmod (wrap64 (a2_1)) 4) : Int).toNat : List Int)).bind fun y122 => (if y119.length + y122.length < 17592186044416 then ((some (y119 ++ y122 : List Int)).bind fun y126 => (if (wrap64 (a2_0)) > (wrap64 ((wrap64 ((wrap64 (a0)) + (mx (mx (wrap64 (a1_0)) (wrap64 (a1_1))) (wrap64 (a1_2))))) + (wrap64 ((wrap64 ((wrap64 (a0)) + (mx (mx (wrap64 (a1_0)) (wrap64 (a1_1))) (wrap64 (a1_2))))) - (wrap64 ((wrap64 (a0)) + (mn (mn (wrap64 (a1_0)) (wrap64 (a1_1))) (wrap64 (a1_2))))))))) then (rudderlaw13_ParityFour.j0 k (wrap64 ((wrap64 (a0)) + (mx (mx (wrap64 (a1_0)) (wrap64 (a1_1))) (wrap64 (a1_2))))) (wrap64 ((wrap64 (a0)) + (mn (mn (wrap64 (a1_0)) (wrap64 (a1_1))) (wrap64 (a1_2))))) (wrap64 ((wrap64 ((wrap64 (a0)) + (mx (mx (wrap64 (a1_0)) (wrap64 (a1_1))) (wrap64 (a1_2))))) - (wrap64 ((wrap64 (a0)) + (mn (mn (wrap64 (a1_0)) (wrap64 (a1_1))) (wrap64 (a1_2))))))) (Int.tmod (wrap64 (a2_1)) 4) (wrap64 (a2_0)) y126 true) else (rudderlaw13_ParityFour.j0 k (wrap64 ((wrap64 (a0)) + (mx (mx (wrap64 (a1_0)) (wrap64 (a1_1))) (wrap64 (a1_2))))) (wrap64 ((wrap64 (a0)) + (mn (mn (wrap64 (a1_0)) (wrap64 (a1_1))) (wrap64 (a1_2))))) (wrap64 ((wrap64 ((wrap64 (a0)) + (mx (mx (wrap64 (a1_0)) (wrap64 (a1_1))) (wrap64 (a1_2))))) - (wrap64 ((wrap64 (a0)) + (mn (mn (wrap64 (a1_0)) (wrap64 (a1_1))) (wrap64 (a1_2))))))) (Int.tmod (wrap64 (a2_1)) 4) (wrap64 (a2_0)) y126 (decide ((wrap64 (a2_0)) < (wrap64 ((wrap64 ((wrap64 (a0)) + (mn (mn (wrap64 (a1_0)) (wrap64 (a1_1))) (wrap64 (a1_2))))) - (wrap64 ((wrap64 ((wrap64 (a0)) + (mx (mx (wrap64 (a1_0)) (wrap64 (a1_1))) (wrap64 (a1_2))))) - (wrap64 ((wrap64 (a0)) + (mn (mn (wrap64 (a1_0)) (wrap64 (a1_1))) (wrap64 (a1_2)))))))))))))) else (none)))) else (none)))) else (none))) else (none)) else (none)))) = some r := h
  clear h
  obtain ⟨y103, hy103⟩ : ∃ y_ : List Int, y_ = (([wrap64 ((wrap64 (a0)) + (wrap64 (a1_0))), wrap64 ((wrap64 (a0)) + (wrap64 (a1_1))), wrap64 ((wrap64 (a0)) + (wrap64 (a1_2)))] : List Int)) := ⟨_, rfl⟩
  replace H : ((some (([] : List Int) : List Int)).bind fun y106 => (if 0 ≤ (Int.tmod (wrap64 (a2_1)) 4) then (if (Int.tmod (wrap64 (a2_1)) 4) ≤ (y103.length : Int) then ((some (y103.take ((Int.tmod (wrap64 (a2_1)) 4) : Int).toNat : List Int)).bind fun y109 => (if y106.length + y109.length < 17592186044416 then ((some (y106 ++ y109 : List Int)).bind fun y113 => ((some (([wrap64 (a2_0)] : List Int) : List Int)).bind fun y116 => (if y113.length + y116.length < 17592186044416 then ((some (y113 ++ y116 : List Int)).bind fun y119 => ((some (y103.drop ((Int.tmod (wrap64 (a2_1)) 4) : Int).toNat : List Int)).bind fun y122 => (if y119.length + y122.length < 17592186044416 then ((some (y119 ++ y122 : List Int)).bind fun y126 => (if (wrap64 (a2_0)) > (wrap64 ((wrap64 ((wrap64 (a0)) + (mx (mx (wrap64 (a1_0)) (wrap64 (a1_1))) (wrap64 (a1_2))))) + (wrap64 ((wrap64 ((wrap64 (a0)) + (mx (mx (wrap64 (a1_0)) (wrap64 (a1_1))) (wrap64 (a1_2))))) - (wrap64 ((wrap64 (a0)) + (mn (mn (wrap64 (a1_0)) (wrap64 (a1_1))) (wrap64 (a1_2))))))))) then (rudderlaw13_ParityFour.j0 k (wrap64 ((wrap64 (a0)) + (mx (mx (wrap64 (a1_0)) (wrap64 (a1_1))) (wrap64 (a1_2))))) (wrap64 ((wrap64 (a0)) + (mn (mn (wrap64 (a1_0)) (wrap64 (a1_1))) (wrap64 (a1_2))))) (wrap64 ((wrap64 ((wrap64 (a0)) + (mx (mx (wrap64 (a1_0)) (wrap64 (a1_1))) (wrap64 (a1_2))))) - (wrap64 ((wrap64 (a0)) + (mn (mn (wrap64 (a1_0)) (wrap64 (a1_1))) (wrap64 (a1_2))))))) (Int.tmod (wrap64 (a2_1)) 4) (wrap64 (a2_0)) y126 true) else (rudderlaw13_ParityFour.j0 k (wrap64 ((wrap64 (a0)) + (mx (mx (wrap64 (a1_0)) (wrap64 (a1_1))) (wrap64 (a1_2))))) (wrap64 ((wrap64 (a0)) + (mn (mn (wrap64 (a1_0)) (wrap64 (a1_1))) (wrap64 (a1_2))))) (wrap64 ((wrap64 ((wrap64 (a0)) + (mx (mx (wrap64 (a1_0)) (wrap64 (a1_1))) (wrap64 (a1_2))))) - (wrap64 ((wrap64 (a0)) + (mn (mn (wrap64 (a1_0)) (wrap64 (a1_1))) (wrap64 (a1_2))))))) (Int.tmod (wrap64 (a2_1)) 4) (wrap64 (a2_0)) y126 (decide ((wrap64 (a2_0)) < (wrap64 ((wrap64 ((wrap64 (a0)) + (mn (mn (wrap64 (a1_0)) (wrap64 (a1_1))) (wrap64 (a1_2))))) - (wrap64 ((wrap64 ((wrap64 (a0)) + (mx (mx (wrap64 (a1_0)) (wrap64 (a1_1))) (wrap64 (a1_2))))) - (wrap64 ((wrap64 (a0)) + (mn (mn (wrap64 (a1_0)) (wrap64 (a1_1))) (wrap64 (a1_2)))))))))))))) else (none)))) else (none)))) else (none))) else (none)) else (none))) = some r := by first | (rw [hy103]; with_reducible exact H) | (have H2_ := (Option.bind_some _ _).symm.trans H; rw [hy103]; with_reducible exact H2_) | (have H2_ := (Option.bind_some _ _).symm.trans H; with_reducible exact H2_) | with_reducible exact H | (rw [hy103]; exact H) | exact H
  have Ny103 := Aside0.mk hy103
  clear hy103
  obtain ⟨ji4, hji4⟩ : ∃ j_ : Int, (mx (wrap64 (a1_0)) (wrap64 (a1_1))) = j_ := ⟨_, rfl⟩
  replace H : ((some (([] : List Int) : List Int)).bind fun y106 => (if 0 ≤ (Int.tmod (wrap64 (a2_1)) 4) then (if (Int.tmod (wrap64 (a2_1)) 4) ≤ (y103.length : Int) then ((some (y103.take ((Int.tmod (wrap64 (a2_1)) 4) : Int).toNat : List Int)).bind fun y109 => (if y106.length + y109.length < 17592186044416 then ((some (y106 ++ y109 : List Int)).bind fun y113 => ((some (([wrap64 (a2_0)] : List Int) : List Int)).bind fun y116 => (if y113.length + y116.length < 17592186044416 then ((some (y113 ++ y116 : List Int)).bind fun y119 => ((some (y103.drop ((Int.tmod (wrap64 (a2_1)) 4) : Int).toNat : List Int)).bind fun y122 => (if y119.length + y122.length < 17592186044416 then ((some (y119 ++ y122 : List Int)).bind fun y126 => (if (wrap64 (a2_0)) > (wrap64 ((wrap64 ((wrap64 (a0)) + (mx (ji4) (wrap64 (a1_2))))) + (wrap64 ((wrap64 ((wrap64 (a0)) + (mx (ji4) (wrap64 (a1_2))))) - (wrap64 ((wrap64 (a0)) + (mn (mn (wrap64 (a1_0)) (wrap64 (a1_1))) (wrap64 (a1_2))))))))) then (rudderlaw13_ParityFour.j0 k (wrap64 ((wrap64 (a0)) + (mx (ji4) (wrap64 (a1_2))))) (wrap64 ((wrap64 (a0)) + (mn (mn (wrap64 (a1_0)) (wrap64 (a1_1))) (wrap64 (a1_2))))) (wrap64 ((wrap64 ((wrap64 (a0)) + (mx (ji4) (wrap64 (a1_2))))) - (wrap64 ((wrap64 (a0)) + (mn (mn (wrap64 (a1_0)) (wrap64 (a1_1))) (wrap64 (a1_2))))))) (Int.tmod (wrap64 (a2_1)) 4) (wrap64 (a2_0)) y126 true) else (rudderlaw13_ParityFour.j0 k (wrap64 ((wrap64 (a0)) + (mx (ji4) (wrap64 (a1_2))))) (wrap64 ((wrap64 (a0)) + (mn (mn (wrap64 (a1_0)) (wrap64 (a1_1))) (wrap64 (a1_2))))) (wrap64 ((wrap64 ((wrap64 (a0)) + (mx (ji4) (wrap64 (a1_2))))) - (wrap64 ((wrap64 (a0)) + (mn (mn (wrap64 (a1_0)) (wrap64 (a1_1))) (wrap64 (a1_2))))))) (Int.tmod (wrap64 (a2_1)) 4) (wrap64 (a2_0)) y126 (decide ((wrap64 (a2_0)) < (wrap64 ((wrap64 ((wrap64 (a0)) + (mn (mn (wrap64 (a1_0)) (wrap64 (a1_1))) (wrap64 (a1_2))))) - (wrap64 ((wrap64 ((wrap64 (a0)) + (mx (ji4) (wrap64 (a1_2))))) - (wrap64 ((wrap64 (a0)) + (mn (mn (wrap64 (a1_0)) (wrap64 (a1_1))) (wrap64 (a1_2)))))))))))))) else (none)))) else (none)))) else (none))) else (none)) else (none))) = some r := by first | (rw [hji4] at H; exact H) | (simp only [hji4] at H ⊢; exact H)
  have hji4_ : (if (wrap64 (a1_0)) < (wrap64 (a1_1)) then (wrap64 (a1_1)) else (wrap64 (a1_0))) = ji4 := hji4
  obtain ⟨ji5, hji5⟩ : ∃ j_ : Int, (mx (ji4) (wrap64 (a1_2))) = j_ := ⟨_, rfl⟩
  replace H : ((some (([] : List Int) : List Int)).bind fun y106 => (if 0 ≤ (Int.tmod (wrap64 (a2_1)) 4) then (if (Int.tmod (wrap64 (a2_1)) 4) ≤ (y103.length : Int) then ((some (y103.take ((Int.tmod (wrap64 (a2_1)) 4) : Int).toNat : List Int)).bind fun y109 => (if y106.length + y109.length < 17592186044416 then ((some (y106 ++ y109 : List Int)).bind fun y113 => ((some (([wrap64 (a2_0)] : List Int) : List Int)).bind fun y116 => (if y113.length + y116.length < 17592186044416 then ((some (y113 ++ y116 : List Int)).bind fun y119 => ((some (y103.drop ((Int.tmod (wrap64 (a2_1)) 4) : Int).toNat : List Int)).bind fun y122 => (if y119.length + y122.length < 17592186044416 then ((some (y119 ++ y122 : List Int)).bind fun y126 => (if (wrap64 (a2_0)) > (wrap64 ((wrap64 ((wrap64 (a0)) + (ji5))) + (wrap64 ((wrap64 ((wrap64 (a0)) + (ji5))) - (wrap64 ((wrap64 (a0)) + (mn (mn (wrap64 (a1_0)) (wrap64 (a1_1))) (wrap64 (a1_2))))))))) then (rudderlaw13_ParityFour.j0 k (wrap64 ((wrap64 (a0)) + (ji5))) (wrap64 ((wrap64 (a0)) + (mn (mn (wrap64 (a1_0)) (wrap64 (a1_1))) (wrap64 (a1_2))))) (wrap64 ((wrap64 ((wrap64 (a0)) + (ji5))) - (wrap64 ((wrap64 (a0)) + (mn (mn (wrap64 (a1_0)) (wrap64 (a1_1))) (wrap64 (a1_2))))))) (Int.tmod (wrap64 (a2_1)) 4) (wrap64 (a2_0)) y126 true) else (rudderlaw13_ParityFour.j0 k (wrap64 ((wrap64 (a0)) + (ji5))) (wrap64 ((wrap64 (a0)) + (mn (mn (wrap64 (a1_0)) (wrap64 (a1_1))) (wrap64 (a1_2))))) (wrap64 ((wrap64 ((wrap64 (a0)) + (ji5))) - (wrap64 ((wrap64 (a0)) + (mn (mn (wrap64 (a1_0)) (wrap64 (a1_1))) (wrap64 (a1_2))))))) (Int.tmod (wrap64 (a2_1)) 4) (wrap64 (a2_0)) y126 (decide ((wrap64 (a2_0)) < (wrap64 ((wrap64 ((wrap64 (a0)) + (mn (mn (wrap64 (a1_0)) (wrap64 (a1_1))) (wrap64 (a1_2))))) - (wrap64 ((wrap64 ((wrap64 (a0)) + (ji5))) - (wrap64 ((wrap64 (a0)) + (mn (mn (wrap64 (a1_0)) (wrap64 (a1_1))) (wrap64 (a1_2)))))))))))))) else (none)))) else (none)))) else (none))) else (none)) else (none))) = some r := by first | (rw [hji5] at H; exact H) | (simp only [hji5] at H ⊢; exact H)
  have hji5_ : (if (ji4) < (wrap64 (a1_2)) then (wrap64 (a1_2)) else (ji4)) = ji5 := hji5
  obtain ⟨ji6, hji6⟩ : ∃ j_ : Int, (mn (wrap64 (a1_0)) (wrap64 (a1_1))) = j_ := ⟨_, rfl⟩
  replace H : ((some (([] : List Int) : List Int)).bind fun y106 => (if 0 ≤ (Int.tmod (wrap64 (a2_1)) 4) then (if (Int.tmod (wrap64 (a2_1)) 4) ≤ (y103.length : Int) then ((some (y103.take ((Int.tmod (wrap64 (a2_1)) 4) : Int).toNat : List Int)).bind fun y109 => (if y106.length + y109.length < 17592186044416 then ((some (y106 ++ y109 : List Int)).bind fun y113 => ((some (([wrap64 (a2_0)] : List Int) : List Int)).bind fun y116 => (if y113.length + y116.length < 17592186044416 then ((some (y113 ++ y116 : List Int)).bind fun y119 => ((some (y103.drop ((Int.tmod (wrap64 (a2_1)) 4) : Int).toNat : List Int)).bind fun y122 => (if y119.length + y122.length < 17592186044416 then ((some (y119 ++ y122 : List Int)).bind fun y126 => (if (wrap64 (a2_0)) > (wrap64 ((wrap64 ((wrap64 (a0)) + (ji5))) + (wrap64 ((wrap64 ((wrap64 (a0)) + (ji5))) - (wrap64 ((wrap64 (a0)) + (mn (ji6) (wrap64 (a1_2))))))))) then (rudderlaw13_ParityFour.j0 k (wrap64 ((wrap64 (a0)) + (ji5))) (wrap64 ((wrap64 (a0)) + (mn (ji6) (wrap64 (a1_2))))) (wrap64 ((wrap64 ((wrap64 (a0)) + (ji5))) - (wrap64 ((wrap64 (a0)) + (mn (ji6) (wrap64 (a1_2))))))) (Int.tmod (wrap64 (a2_1)) 4) (wrap64 (a2_0)) y126 true) else (rudderlaw13_ParityFour.j0 k (wrap64 ((wrap64 (a0)) + (ji5))) (wrap64 ((wrap64 (a0)) + (mn (ji6) (wrap64 (a1_2))))) (wrap64 ((wrap64 ((wrap64 (a0)) + (ji5))) - (wrap64 ((wrap64 (a0)) + (mn (ji6) (wrap64 (a1_2))))))) (Int.tmod (wrap64 (a2_1)) 4) (wrap64 (a2_0)) y126 (decide ((wrap64 (a2_0)) < (wrap64 ((wrap64 ((wrap64 (a0)) + (mn (ji6) (wrap64 (a1_2))))) - (wrap64 ((wrap64 ((wrap64 (a0)) + (ji5))) - (wrap64 ((wrap64 (a0)) + (mn (ji6) (wrap64 (a1_2)))))))))))))) else (none)))) else (none)))) else (none))) else (none)) else (none))) = some r := by first | (rw [hji6] at H; exact H) | (simp only [hji6] at H ⊢; exact H)
  have hji6_ : (if (wrap64 (a1_1)) < (wrap64 (a1_0)) then (wrap64 (a1_1)) else (wrap64 (a1_0))) = ji6 := hji6
  obtain ⟨ji7, hji7⟩ : ∃ j_ : Int, (mn (ji6) (wrap64 (a1_2))) = j_ := ⟨_, rfl⟩
  replace H : ((some (([] : List Int) : List Int)).bind fun y106 => (if 0 ≤ (Int.tmod (wrap64 (a2_1)) 4) then (if (Int.tmod (wrap64 (a2_1)) 4) ≤ (y103.length : Int) then ((some (y103.take ((Int.tmod (wrap64 (a2_1)) 4) : Int).toNat : List Int)).bind fun y109 => (if y106.length + y109.length < 17592186044416 then ((some (y106 ++ y109 : List Int)).bind fun y113 => ((some (([wrap64 (a2_0)] : List Int) : List Int)).bind fun y116 => (if y113.length + y116.length < 17592186044416 then ((some (y113 ++ y116 : List Int)).bind fun y119 => ((some (y103.drop ((Int.tmod (wrap64 (a2_1)) 4) : Int).toNat : List Int)).bind fun y122 => (if y119.length + y122.length < 17592186044416 then ((some (y119 ++ y122 : List Int)).bind fun y126 => (if (wrap64 (a2_0)) > (wrap64 ((wrap64 ((wrap64 (a0)) + (ji5))) + (wrap64 ((wrap64 ((wrap64 (a0)) + (ji5))) - (wrap64 ((wrap64 (a0)) + (ji7))))))) then (rudderlaw13_ParityFour.j0 k (wrap64 ((wrap64 (a0)) + (ji5))) (wrap64 ((wrap64 (a0)) + (ji7))) (wrap64 ((wrap64 ((wrap64 (a0)) + (ji5))) - (wrap64 ((wrap64 (a0)) + (ji7))))) (Int.tmod (wrap64 (a2_1)) 4) (wrap64 (a2_0)) y126 true) else (rudderlaw13_ParityFour.j0 k (wrap64 ((wrap64 (a0)) + (ji5))) (wrap64 ((wrap64 (a0)) + (ji7))) (wrap64 ((wrap64 ((wrap64 (a0)) + (ji5))) - (wrap64 ((wrap64 (a0)) + (ji7))))) (Int.tmod (wrap64 (a2_1)) 4) (wrap64 (a2_0)) y126 (decide ((wrap64 (a2_0)) < (wrap64 ((wrap64 ((wrap64 (a0)) + (ji7))) - (wrap64 ((wrap64 ((wrap64 (a0)) + (ji5))) - (wrap64 ((wrap64 (a0)) + (ji7)))))))))))) else (none)))) else (none)))) else (none))) else (none)) else (none))) = some r := by first | (rw [hji7] at H; exact H) | (simp only [hji7] at H ⊢; exact H)
  have hji7_ : (if (wrap64 (a1_2)) < (ji6) then (wrap64 (a1_2)) else (ji6)) = ji7 := hji7
  obtain ⟨y106, hy106⟩ : ∃ y_ : List Int, y_ = (([] : List Int)) := ⟨_, rfl⟩
  replace H : (if 0 ≤ (Int.tmod (wrap64 (a2_1)) 4) then (if (Int.tmod (wrap64 (a2_1)) 4) ≤ (y103.length : Int) then ((some (y103.take ((Int.tmod (wrap64 (a2_1)) 4) : Int).toNat : List Int)).bind fun y109 => (if y106.length + y109.length < 17592186044416 then ((some (y106 ++ y109 : List Int)).bind fun y113 => ((some (([wrap64 (a2_0)] : List Int) : List Int)).bind fun y116 => (if y113.length + y116.length < 17592186044416 then ((some (y113 ++ y116 : List Int)).bind fun y119 => ((some (y103.drop ((Int.tmod (wrap64 (a2_1)) 4) : Int).toNat : List Int)).bind fun y122 => (if y119.length + y122.length < 17592186044416 then ((some (y119 ++ y122 : List Int)).bind fun y126 => (if (wrap64 (a2_0)) > (wrap64 ((wrap64 ((wrap64 (a0)) + (ji5))) + (wrap64 ((wrap64 ((wrap64 (a0)) + (ji5))) - (wrap64 ((wrap64 (a0)) + (ji7))))))) then (rudderlaw13_ParityFour.j0 k (wrap64 ((wrap64 (a0)) + (ji5))) (wrap64 ((wrap64 (a0)) + (ji7))) (wrap64 ((wrap64 ((wrap64 (a0)) + (ji5))) - (wrap64 ((wrap64 (a0)) + (ji7))))) (Int.tmod (wrap64 (a2_1)) 4) (wrap64 (a2_0)) y126 true) else (rudderlaw13_ParityFour.j0 k (wrap64 ((wrap64 (a0)) + (ji5))) (wrap64 ((wrap64 (a0)) + (ji7))) (wrap64 ((wrap64 ((wrap64 (a0)) + (ji5))) - (wrap64 ((wrap64 (a0)) + (ji7))))) (Int.tmod (wrap64 (a2_1)) 4) (wrap64 (a2_0)) y126 (decide ((wrap64 (a2_0)) < (wrap64 ((wrap64 ((wrap64 (a0)) + (ji7))) - (wrap64 ((wrap64 ((wrap64 (a0)) + (ji5))) - (wrap64 ((wrap64 (a0)) + (ji7)))))))))))) else (none)))) else (none)))) else (none))) else (none)) else (none)) = some r := by first | (rw [hy106]; with_reducible exact H) | (have H2_ := (Option.bind_some _ _).symm.trans H; rw [hy106]; with_reducible exact H2_) | (have H2_ := (Option.bind_some _ _).symm.trans H; with_reducible exact H2_) | with_reducible exact H | (rw [hy106]; exact H) | exact H
  have Ny106 := Aside0.mk hy106
  clear hy106
  obtain ⟨ji8, hji8⟩ : ∃ j_ : Int, (Int.tmod (wrap64 (a2_1)) 4) = j_ := ⟨_, rfl⟩
  replace H : (if 0 ≤ (ji8) then (if (ji8) ≤ (y103.length : Int) then ((some (y103.take ((ji8) : Int).toNat : List Int)).bind fun y109 => (if y106.length + y109.length < 17592186044416 then ((some (y106 ++ y109 : List Int)).bind fun y113 => ((some (([wrap64 (a2_0)] : List Int) : List Int)).bind fun y116 => (if y113.length + y116.length < 17592186044416 then ((some (y113 ++ y116 : List Int)).bind fun y119 => ((some (y103.drop ((ji8) : Int).toNat : List Int)).bind fun y122 => (if y119.length + y122.length < 17592186044416 then ((some (y119 ++ y122 : List Int)).bind fun y126 => (if (wrap64 (a2_0)) > (wrap64 ((wrap64 ((wrap64 (a0)) + (ji5))) + (wrap64 ((wrap64 ((wrap64 (a0)) + (ji5))) - (wrap64 ((wrap64 (a0)) + (ji7))))))) then (rudderlaw13_ParityFour.j0 k (wrap64 ((wrap64 (a0)) + (ji5))) (wrap64 ((wrap64 (a0)) + (ji7))) (wrap64 ((wrap64 ((wrap64 (a0)) + (ji5))) - (wrap64 ((wrap64 (a0)) + (ji7))))) ji8 (wrap64 (a2_0)) y126 true) else (rudderlaw13_ParityFour.j0 k (wrap64 ((wrap64 (a0)) + (ji5))) (wrap64 ((wrap64 (a0)) + (ji7))) (wrap64 ((wrap64 ((wrap64 (a0)) + (ji5))) - (wrap64 ((wrap64 (a0)) + (ji7))))) ji8 (wrap64 (a2_0)) y126 (decide ((wrap64 (a2_0)) < (wrap64 ((wrap64 ((wrap64 (a0)) + (ji7))) - (wrap64 ((wrap64 ((wrap64 (a0)) + (ji5))) - (wrap64 ((wrap64 (a0)) + (ji7)))))))))))) else (none)))) else (none)))) else (none))) else (none)) else (none)) = some r := by first | (rw [hji8] at H; exact H) | (simp only [hji8] at H ⊢; exact H)
  by_cases c9 : 0 ≤ (ji8)
  · rw [if_pos c9] at H
    have c9b0 := eq_true c9
    have c9b1 : decide (0 ≤ (ji8)) = true := decide_eq_true c9
    clear c9
    by_cases c10 : (ji8) ≤ (y103.length : Int)
    · rw [if_pos c10] at H
      have c10b0 := eq_true c10
      have c10b1 : decide ((ji8) ≤ (y103.length : Int)) = true := decide_eq_true c10
      clear c10
      obtain ⟨y109, hy109⟩ : ∃ y_ : List Int, y_ = (y103.take ((ji8) : Int).toNat) := ⟨_, rfl⟩
      replace H : (if y106.length + y109.length < 17592186044416 then ((some (y106 ++ y109 : List Int)).bind fun y113 => ((some (([wrap64 (a2_0)] : List Int) : List Int)).bind fun y116 => (if y113.length + y116.length < 17592186044416 then ((some (y113 ++ y116 : List Int)).bind fun y119 => ((some (y103.drop ((ji8) : Int).toNat : List Int)).bind fun y122 => (if y119.length + y122.length < 17592186044416 then ((some (y119 ++ y122 : List Int)).bind fun y126 => (if (wrap64 (a2_0)) > (wrap64 ((wrap64 ((wrap64 (a0)) + (ji5))) + (wrap64 ((wrap64 ((wrap64 (a0)) + (ji5))) - (wrap64 ((wrap64 (a0)) + (ji7))))))) then (rudderlaw13_ParityFour.j0 k (wrap64 ((wrap64 (a0)) + (ji5))) (wrap64 ((wrap64 (a0)) + (ji7))) (wrap64 ((wrap64 ((wrap64 (a0)) + (ji5))) - (wrap64 ((wrap64 (a0)) + (ji7))))) ji8 (wrap64 (a2_0)) y126 true) else (rudderlaw13_ParityFour.j0 k (wrap64 ((wrap64 (a0)) + (ji5))) (wrap64 ((wrap64 (a0)) + (ji7))) (wrap64 ((wrap64 ((wrap64 (a0)) + (ji5))) - (wrap64 ((wrap64 (a0)) + (ji7))))) ji8 (wrap64 (a2_0)) y126 (decide ((wrap64 (a2_0)) < (wrap64 ((wrap64 ((wrap64 (a0)) + (ji7))) - (wrap64 ((wrap64 ((wrap64 (a0)) + (ji5))) - (wrap64 ((wrap64 (a0)) + (ji7)))))))))))) else (none)))) else (none)))) else (none)) = some r := by first | (rw [hy109]; with_reducible exact H) | (have H2_ := (Option.bind_some _ _).symm.trans H; rw [hy109]; with_reducible exact H2_) | (have H2_ := (Option.bind_some _ _).symm.trans H; with_reducible exact H2_) | with_reducible exact H | (rw [hy109]; exact H) | exact H
      have Ny109 := Aside0.mk hy109
      clear hy109
      by_cases c11 : y106.length + y109.length < 17592186044416
      · rw [if_pos c11] at H
        have LMc11 := Aside0.mk c11
        clear c11
        obtain ⟨y113, hy113⟩ : ∃ y_ : List Int, y_ = (y106 ++ y109) := ⟨_, rfl⟩
        replace H : ((some (([wrap64 (a2_0)] : List Int) : List Int)).bind fun y116 => (if y113.length + y116.length < 17592186044416 then ((some (y113 ++ y116 : List Int)).bind fun y119 => ((some (y103.drop ((ji8) : Int).toNat : List Int)).bind fun y122 => (if y119.length + y122.length < 17592186044416 then ((some (y119 ++ y122 : List Int)).bind fun y126 => (if (wrap64 (a2_0)) > (wrap64 ((wrap64 ((wrap64 (a0)) + (ji5))) + (wrap64 ((wrap64 ((wrap64 (a0)) + (ji5))) - (wrap64 ((wrap64 (a0)) + (ji7))))))) then (rudderlaw13_ParityFour.j0 k (wrap64 ((wrap64 (a0)) + (ji5))) (wrap64 ((wrap64 (a0)) + (ji7))) (wrap64 ((wrap64 ((wrap64 (a0)) + (ji5))) - (wrap64 ((wrap64 (a0)) + (ji7))))) ji8 (wrap64 (a2_0)) y126 true) else (rudderlaw13_ParityFour.j0 k (wrap64 ((wrap64 (a0)) + (ji5))) (wrap64 ((wrap64 (a0)) + (ji7))) (wrap64 ((wrap64 ((wrap64 (a0)) + (ji5))) - (wrap64 ((wrap64 (a0)) + (ji7))))) ji8 (wrap64 (a2_0)) y126 (decide ((wrap64 (a2_0)) < (wrap64 ((wrap64 ((wrap64 (a0)) + (ji7))) - (wrap64 ((wrap64 ((wrap64 (a0)) + (ji5))) - (wrap64 ((wrap64 (a0)) + (ji7)))))))))))) else (none)))) else (none))) = some r := by first | (rw [hy113]; with_reducible exact H) | (have H2_ := (Option.bind_some _ _).symm.trans H; rw [hy113]; with_reducible exact H2_) | (have H2_ := (Option.bind_some _ _).symm.trans H; with_reducible exact H2_) | with_reducible exact H | (rw [hy113]; exact H) | exact H
        have Ny113 := Aside0.mk hy113
        clear hy113
        obtain ⟨y116, hy116⟩ : ∃ y_ : List Int, y_ = (([wrap64 (a2_0)] : List Int)) := ⟨_, rfl⟩
        replace H : (if y113.length + y116.length < 17592186044416 then ((some (y113 ++ y116 : List Int)).bind fun y119 => ((some (y103.drop ((ji8) : Int).toNat : List Int)).bind fun y122 => (if y119.length + y122.length < 17592186044416 then ((some (y119 ++ y122 : List Int)).bind fun y126 => (if (wrap64 (a2_0)) > (wrap64 ((wrap64 ((wrap64 (a0)) + (ji5))) + (wrap64 ((wrap64 ((wrap64 (a0)) + (ji5))) - (wrap64 ((wrap64 (a0)) + (ji7))))))) then (rudderlaw13_ParityFour.j0 k (wrap64 ((wrap64 (a0)) + (ji5))) (wrap64 ((wrap64 (a0)) + (ji7))) (wrap64 ((wrap64 ((wrap64 (a0)) + (ji5))) - (wrap64 ((wrap64 (a0)) + (ji7))))) ji8 (wrap64 (a2_0)) y126 true) else (rudderlaw13_ParityFour.j0 k (wrap64 ((wrap64 (a0)) + (ji5))) (wrap64 ((wrap64 (a0)) + (ji7))) (wrap64 ((wrap64 ((wrap64 (a0)) + (ji5))) - (wrap64 ((wrap64 (a0)) + (ji7))))) ji8 (wrap64 (a2_0)) y126 (decide ((wrap64 (a2_0)) < (wrap64 ((wrap64 ((wrap64 (a0)) + (ji7))) - (wrap64 ((wrap64 ((wrap64 (a0)) + (ji5))) - (wrap64 ((wrap64 (a0)) + (ji7)))))))))))) else (none)))) else (none)) = some r := by first | (rw [hy116]; with_reducible exact H) | (have H2_ := (Option.bind_some _ _).symm.trans H; rw [hy116]; with_reducible exact H2_) | (have H2_ := (Option.bind_some _ _).symm.trans H; with_reducible exact H2_) | with_reducible exact H | (rw [hy116]; exact H) | exact H
        have Ny116 := Aside0.mk hy116
        clear hy116
        by_cases c12 : y113.length + y116.length < 17592186044416
        · rw [if_pos c12] at H
          have LMc12 := Aside0.mk c12
          clear c12
          obtain ⟨y119, hy119⟩ : ∃ y_ : List Int, y_ = (y113 ++ y116) := ⟨_, rfl⟩
          replace H : ((some (y103.drop ((ji8) : Int).toNat : List Int)).bind fun y122 => (if y119.length + y122.length < 17592186044416 then ((some (y119 ++ y122 : List Int)).bind fun y126 => (if (wrap64 (a2_0)) > (wrap64 ((wrap64 ((wrap64 (a0)) + (ji5))) + (wrap64 ((wrap64 ((wrap64 (a0)) + (ji5))) - (wrap64 ((wrap64 (a0)) + (ji7))))))) then (rudderlaw13_ParityFour.j0 k (wrap64 ((wrap64 (a0)) + (ji5))) (wrap64 ((wrap64 (a0)) + (ji7))) (wrap64 ((wrap64 ((wrap64 (a0)) + (ji5))) - (wrap64 ((wrap64 (a0)) + (ji7))))) ji8 (wrap64 (a2_0)) y126 true) else (rudderlaw13_ParityFour.j0 k (wrap64 ((wrap64 (a0)) + (ji5))) (wrap64 ((wrap64 (a0)) + (ji7))) (wrap64 ((wrap64 ((wrap64 (a0)) + (ji5))) - (wrap64 ((wrap64 (a0)) + (ji7))))) ji8 (wrap64 (a2_0)) y126 (decide ((wrap64 (a2_0)) < (wrap64 ((wrap64 ((wrap64 (a0)) + (ji7))) - (wrap64 ((wrap64 ((wrap64 (a0)) + (ji5))) - (wrap64 ((wrap64 (a0)) + (ji7)))))))))))) else (none))) = some r := by first | (rw [hy119]; with_reducible exact H) | (have H2_ := (Option.bind_some _ _).symm.trans H; rw [hy119]; with_reducible exact H2_) | (have H2_ := (Option.bind_some _ _).symm.trans H; with_reducible exact H2_) | with_reducible exact H | (rw [hy119]; exact H) | exact H
          have Ny119 := Aside0.mk hy119
          clear hy119
          have c13b0 := eq_true (of_decide_eq_true (by first | (with_reducible assumption) | assumption) : 0 ≤ (ji8))
          have c14b0 := eq_true (of_decide_eq_true (by first | (with_reducible assumption) | assumption) : (ji8) ≤ (y103.length : Int))
          obtain ⟨y122, hy122⟩ : ∃ y_ : List Int, y_ = (y103.drop ((ji8) : Int).toNat) := ⟨_, rfl⟩
          replace H : (if y119.length + y122.length < 17592186044416 then ((some (y119 ++ y122 : List Int)).bind fun y126 => (if (wrap64 (a2_0)) > (wrap64 ((wrap64 ((wrap64 (a0)) + (ji5))) + (wrap64 ((wrap64 ((wrap64 (a0)) + (ji5))) - (wrap64 ((wrap64 (a0)) + (ji7))))))) then (rudderlaw13_ParityFour.j0 k (wrap64 ((wrap64 (a0)) + (ji5))) (wrap64 ((wrap64 (a0)) + (ji7))) (wrap64 ((wrap64 ((wrap64 (a0)) + (ji5))) - (wrap64 ((wrap64 (a0)) + (ji7))))) ji8 (wrap64 (a2_0)) y126 true) else (rudderlaw13_ParityFour.j0 k (wrap64 ((wrap64 (a0)) + (ji5))) (wrap64 ((wrap64 (a0)) + (ji7))) (wrap64 ((wrap64 ((wrap64 (a0)) + (ji5))) - (wrap64 ((wrap64 (a0)) + (ji7))))) ji8 (wrap64 (a2_0)) y126 (decide ((wrap64 (a2_0)) < (wrap64 ((wrap64 ((wrap64 (a0)) + (ji7))) - (wrap64 ((wrap64 ((wrap64 (a0)) + (ji5))) - (wrap64 ((wrap64 (a0)) + (ji7)))))))))))) else (none)) = some r := by first | (rw [hy122]; with_reducible exact H) | (have H2_ := (Option.bind_some _ _).symm.trans H; rw [hy122]; with_reducible exact H2_) | (have H2_ := (Option.bind_some _ _).symm.trans H; with_reducible exact H2_) | with_reducible exact H | (rw [hy122]; exact H) | exact H
          have Ny122 := Aside0.mk hy122
          clear hy122
          by_cases c15 : y119.length + y122.length < 17592186044416
          · rw [if_pos c15] at H
            have LMc15 := Aside0.mk c15
            clear c15
            obtain ⟨y126, hy126⟩ : ∃ y_ : List Int, y_ = (y119 ++ y122) := ⟨_, rfl⟩
            replace H : (if (wrap64 (a2_0)) > (wrap64 ((wrap64 ((wrap64 (a0)) + (ji5))) + (wrap64 ((wrap64 ((wrap64 (a0)) + (ji5))) - (wrap64 ((wrap64 (a0)) + (ji7))))))) then (rudderlaw13_ParityFour.j0 k (wrap64 ((wrap64 (a0)) + (ji5))) (wrap64 ((wrap64 (a0)) + (ji7))) (wrap64 ((wrap64 ((wrap64 (a0)) + (ji5))) - (wrap64 ((wrap64 (a0)) + (ji7))))) ji8 (wrap64 (a2_0)) y126 true) else (rudderlaw13_ParityFour.j0 k (wrap64 ((wrap64 (a0)) + (ji5))) (wrap64 ((wrap64 (a0)) + (ji7))) (wrap64 ((wrap64 ((wrap64 (a0)) + (ji5))) - (wrap64 ((wrap64 (a0)) + (ji7))))) ji8 (wrap64 (a2_0)) y126 (decide ((wrap64 (a2_0)) < (wrap64 ((wrap64 ((wrap64 (a0)) + (ji7))) - (wrap64 ((wrap64 ((wrap64 (a0)) + (ji5))) - (wrap64 ((wrap64 (a0)) + (ji7))))))))))) = some r := by first | (rw [hy126]; with_reducible exact H) | (have H2_ := (Option.bind_some _ _).symm.trans H; rw [hy126]; with_reducible exact H2_) | (have H2_ := (Option.bind_some _ _).symm.trans H; with_reducible exact H2_) | with_reducible exact H | (rw [hy126]; exact H) | exact H
            have Ny126 := Aside0.mk hy126
            clear hy126
            have HC16 := Aside0.mk H
            clear H
            go_enter Try.func13, Try.ntmps13
            try go_wp2_with (first | ((with_reducible refine gate_dst (N := 4) rfl ?_); refine box_event ?hg (N := 4) ?hd (cs := #[.int .u16 a1_0, .int .u16 a1_1, .int .u16 a1_2]) (t := 44) ?hr ?_; (case hd => rfl); (case hg => rfl); (case hr => first | (go_simp; done) | (go_simp; rfl)); intro gb101 hg w17 hbox hb; have n0_ := Aside0.mk (below_step (by repeat (first | (with_reducible first | exact HB.out | apply below_alloc | apply pw_below_drewN | apply below_drew1) | exact HB.out)) hb); have n1_ := Aside0.mk (hbox); have n2_ := Aside0.mk ((by rw [hg]; exact (below_size (by repeat (first | (with_reducible first | exact HB.out | apply below_alloc | apply pw_below_drewN | apply below_drew1) | exact HB.out))) : w.heap.size ≤ gb101)); have n3_ := Aside0.mk ((by rw [hg]; exact (below_size (by repeat (first | (with_reducible first | exact HB.out | apply below_alloc | apply pw_below_drewN | apply below_drew1) | exact HB.out))) : w.heap.size ≤ gb101)); clear HB; have HB := n0_; have BK101 := n1_; have GW101 := n2_; have GE101 := n3_; clear n0_ n1_ n2_ n3_; clear hb hbox hg) | ((with_reducible refine gate_dst (N := 5) rfl ?_); refine box_event ?hg (N := 5) ?hd (cs := #[.int .i32 a2_0, .int .u8 a2_1]) (t := 87) ?hr ?_; (case hd => rfl); (case hg => rfl); (case hr => first | (go_simp; done) | (go_simp; rfl)); intro gb102 hg w18 hbox hb; have n0_ := Aside0.mk (blk_below (g := gb101) (o := .cells #[.int .u16 a1_0, .int .u16 a1_1, .int .u16 a1_2] 44 (0, 0)) (by (with_reducible repeat (first | refine blk_drewN ?_ _ | refine blk_drew ?_ | refine blk_alloc ?_ _)); exact BK101.out) hb); have n1_ := Aside0.mk (below_step (by repeat (first | (with_reducible first | exact HB.out | apply below_alloc | apply pw_below_drewN | apply below_drew1 | refine below_set ?_ GE101.out) | exact HB.out)) hb); have n2_ := Aside0.mk (hbox); have n3_ := Aside0.mk ((by rw [hg]; exact (below_size (by repeat (first | (with_reducible first | exact HB.out | apply below_alloc | apply pw_below_drewN | apply below_drew1 | refine below_set ?_ GE101.out) | exact HB.out))) : w.heap.size ≤ gb102)); have n4_ := Aside0.mk ((by rw [hg]; exact (below_size (by repeat (first | (with_reducible first | exact HB.out | apply below_alloc | apply pw_below_drewN | apply below_drew1 | refine below_set ?_ GE101.out) | exact HB.out))) : w.heap.size ≤ gb102)); have n5_ := Aside0.mk ((by rw [hg]; exact Nat.ne_of_lt (blk_lt (g := gb101) (o := .cells #[.int .u16 a1_0, .int .u16 a1_1, .int .u16 a1_2] 44 (0, 0)) (by (with_reducible repeat (first | refine blk_drewN ?_ _ | refine blk_drew ?_ | refine blk_alloc ?_ _)); exact BK101.out)) : gb101 ≠ gb102)); have n6_ := Aside0.mk ((by rw [hg]; exact Nat.ne_of_gt (blk_lt (g := gb101) (o := .cells #[.int .u16 a1_0, .int .u16 a1_1, .int .u16 a1_2] 44 (0, 0)) (by (with_reducible repeat (first | refine blk_drewN ?_ _ | refine blk_drew ?_ | refine blk_alloc ?_ _)); exact BK101.out)) : gb102 ≠ gb101)); clear BK101; clear HB; have BK101 := n0_; have HB := n1_; have BK102 := n2_; have GW102 := n3_; have GE102 := n4_; have NB101_102 := n5_; have NB102_101 := n6_; clear n0_ n1_ n2_ n3_ n4_ n5_ n6_; clear hb hbox hg; have hnb19 := NB102_101.out; have hnc19 := NB101_102.out; have hcz20_0 : w18.cell? ⟨gb102, 0, none⟩ = some (.int .i32 a2_0) := (blk_cell BK102.out 0).trans rfl; have hcz20_1 : w18.cell? ⟨gb102, 1, none⟩ = some (.int .u8 a2_1) := (blk_cell BK102.out 1).trans rfl; have hfz20_0 := blk_frozen BK102.out 0; have hfz20_1 := blk_frozen BK102.out 1; have hcz21_0 : w18.cell? ⟨gb101, 0, none⟩ = some (.int .u16 a1_0) := (blk_cell BK101.out 0).trans rfl; have hcz21_1 : w18.cell? ⟨gb101, 1, none⟩ = some (.int .u16 a1_1) := (blk_cell BK101.out 1).trans rfl; have hcz21_2 : w18.cell? ⟨gb101, 2, none⟩ = some (.int .u16 a1_2) := (blk_cell BK101.out 2).trans rfl; have hfz21_0 := blk_frozen BK101.out 0; have hfz21_1 := blk_frozen BK101.out 1; have hfz21_2 := blk_frozen BK101.out 2) | ((with_reducible refine gate_dst (N := 38) rfl ?_); refine Kd.R_lit (Kd.int .i64) _ 3 ?hg (N := 38) ?hd (xs := ([wrap64 ((wrap64 (a0)) + (wrap64 (a1_0))), wrap64 ((wrap64 (a0)) + (wrap64 (a1_1))), wrap64 ((wrap64 (a0)) + (wrap64 (a1_2)))] : List Int)) (inner := [.int .i64 (wrap64 ((wrap64 (a0)) + (wrap64 (a1_0)))), .int .i64 (wrap64 ((wrap64 (a0)) + (wrap64 (a1_1)))), .int .i64 (wrap64 ((wrap64 (a0)) + (wrap64 (a1_2))))]) (ok := fun _ => True) (okp := fun _ => True) ?hr ?hp (fun _ hk => hk) trivial (Below.refl _ _) (Nat.le_refl _) (by simp) ?_; (case hd => rfl); (case hg => rfl); (case hr => first | (go_simp; done) | (go_simp; rfl)); (case hp => exact (Reps.one (show Kd.M (Kd.int .i64) _ _ _ (wrap64 ((wrap64 (a0)) + (wrap64 (a1_0)))) [.int .i64 (wrap64 ((wrap64 (a0)) + (wrap64 (a1_0))))] from rfl) (Reps.one (show Kd.M (Kd.int .i64) _ _ _ (wrap64 ((wrap64 (a0)) + (wrap64 (a1_1)))) [.int .i64 (wrap64 ((wrap64 (a0)) + (wrap64 (a1_1))))] from rfl) (Reps.one (show Kd.M (Kd.int .i64) _ _ _ (wrap64 ((wrap64 (a0)) + (wrap64 (a1_2)))) [.int .i64 (wrap64 ((wrap64 (a0)) + (wrap64 (a1_2))))] from rfl) (Reps.none _ _))))); intro v104 w22 ho23 hb hg_ hnew_; clear hg_ hnew_; (first | rw [← Ny103.out] at ho23 | (simp only [Int.reduceToNat] at ho23; rw [← Ny103.out] at ho23)); have n0_ := Aside0.mk (Kd.R_lower ho23 (below_size (by repeat (first | (with_reducible first | exact HB.out | apply below_alloc | apply pw_below_drewN | apply below_drew1 | refine below_set ?_ GE101.out | refine below_set ?_ GE102.out) | exact HB.out)))); have n1_ := Aside0.mk (blk_below (g := gb101) (o := .cells #[.int .u16 a1_0, .int .u16 a1_1, .int .u16 a1_2] 44 (0, 0)) (by (with_reducible repeat (first | refine blk_drewN ?_ _ | refine blk_drew ?_ | refine blk_alloc ?_ _)); exact BK101.out) hb); have n2_ := Aside0.mk (blk_below (g := gb102) (o := .cells #[.int .i32 a2_0, .int .u8 a2_1] 87 (0, 0)) (by (with_reducible repeat (first | refine blk_drewN ?_ _ | refine blk_drew ?_ | refine blk_alloc ?_ _)); exact BK102.out) hb); have n3_ := Aside0.mk (below_step (by repeat (first | (with_reducible first | exact HB.out | apply below_alloc | apply pw_below_drewN | apply below_drew1 | refine below_set ?_ GE101.out | refine below_set ?_ GE102.out) | exact HB.out)) hb); clear BK101; clear BK102; clear HB; have HO105 := n0_; have BK101 := n1_; have BK102 := n2_; have HB := n3_; clear n0_ n1_ n2_ n3_; clear hb ho23; have hcz24_0 : w22.cell? ⟨gb101, 0, none⟩ = some (.int .u16 a1_0) := (blk_cell BK101.out 0).trans rfl; have hcz24_1 : w22.cell? ⟨gb101, 1, none⟩ = some (.int .u16 a1_1) := (blk_cell BK101.out 1).trans rfl; have hcz24_2 : w22.cell? ⟨gb101, 2, none⟩ = some (.int .u16 a1_2) := (blk_cell BK101.out 2).trans rfl; have hfz24_0 := blk_frozen BK101.out 0; have hfz24_1 := blk_frozen BK101.out 1; have hfz24_2 := blk_frozen BK101.out 2))
            have n0_ := Aside0.mk (Kd.R_drew HO105.out)
            have n1_ := Aside0.mk (blk_drew BK101.out)
            have n2_ := Aside0.mk (blk_drew BK102.out)
            have n3_ := Aside0.mk (below_drew1 HB.out)
            clear HO105
            clear BK101
            clear BK102
            clear HB
            have HO105 := n0_
            have BK101 := n1_
            have BK102 := n2_
            have HB := n3_
            clear n0_ n1_ n2_ n3_
            obtain ⟨Ao27, co27, eo27⟩ := Kd.R_slice HO105.out
            (first | subst eo27 | (injection eo27 with f1_ f2_ f3_; have f4_ := f1_.symm; have f5_ := f3_.symm; clear f1_ f2_ f3_; subst f4_; subst f5_))
            have q26 : ((ji8) : Int) ≤ ((y103.length : Int) : Int) := of_decide_eq_true (by first | (with_reducible assumption) | assumption)
            obtain ⟨i026, hi026, _, hsz26, _⟩ := info_parts info3
            have hroom26 : y103.length ≤ co27 := (Kd.R_reads' HO105.out).2.1
            have hC26 : Kd.C (Kd.int .i64) _ Ao27 y103.length y103 := (Kd.R_reads' HO105.out).2.2
            have hcut26 := cut_to (P := Try.prog) 29 3 .i64 Try.underlying29 hi026 Ao27 y103.length co27 (ji8) (of_decide_eq_true (by first | (with_reducible assumption) | assumption)) q26 hroom26
            have hr26 := Kd.C_take (m := ((ji8) : Int).toNat) hC26 (by omega)
            have hy26 : y109.length = ((ji8) : Int).toNat := (by rw [Ny109.out, List.length_take]; omega)
            rw [← Ny109.out] at hr26
            rw [← hy26] at hcut26
            have HR112 := Aside0.mk hr26
            have HC112 := Aside0.mk (show y109.length ≤ co27 from by omega)
            clear hr26 hC26 hroom26 hi026 hsz26
            have KY26 := Aside0.mk hy26
            clear hy26
            have KL26 := Aside0.mk (show ((ji8) : Int).toNat ≤ y103.length from by omega)
            replace q26 := eq_true q26
            have q28 : ((ji8) : Int) ≤ ((y103.length : Int) : Int) := of_decide_eq_true (by first | (with_reducible assumption) | assumption)
            obtain ⟨i028, hi028, _, hsz28, _⟩ := info_parts info3
            have hroom28 : y103.length ≤ co27 := (Kd.R_reads' HO105.out).2.1
            have hC28 : Kd.C (Kd.int .i64) _ Ao27 y103.length y103 := (Kd.R_reads' HO105.out).2.2
            have q028 : (0 : Int) ≤ ((ji8) : Int) := of_decide_eq_true (by first | (with_reducible assumption) | assumption)
            have hcut28 := cut_from (P := Try.prog) 29 3 .i64 Try.underlying29 hi028 1 hsz28 Ao27 y103.length co27 (ji8) q028 q28
            have hr28 := Kd.C_drop (m := ((ji8) : Int).toNat) (c := co27) hC28 (by omega) hroom28
            obtain ⟨A28, hA28⟩ : ∃ A1, A1 = (if co27 = ((ji8) : Int).toNat then Ao27 else (Ao27 : Option Addr).map (·.add (((ji8) : Int).toNat * 1))) := ⟨_, rfl⟩
            obtain ⟨c28, hc28⟩ : ∃ c1, c1 = co27 - ((ji8) : Int).toNat := ⟨_, rfl⟩
            have hy28 : y122.length = y103.length - ((ji8) : Int).toNat := (by rw [Ny122.out, List.length_drop] <;> omega)
            rw [show (y103).drop ((ji8) : Int).toNat = y122 from Ny122.out.symm] at hr28
            replace hr28 : Kd.C (Kd.int .i64) _ A28 y122.length y122 := (by rw [hA28]; exact hr28)
            rw [← hy28, ← hA28, ← hc28] at hcut28
            have HR125 := Aside0.mk hr28
            have HC125 := Aside0.mk (show y122.length ≤ c28 from by rw [hy28, hc28]; exact Nat.sub_le_sub_right hroom28 _)
            clear hr28 hC28 hroom28 hi028 hsz28 hc28
            have KY28 := Aside0.mk hy28
            have KA28 := Aside0.mk hA28
            clear hy28 hA28
            have KL28 := Aside0.mk (show ((ji8) : Int).toNat ≤ y103.length from by omega)
            replace q28 := eq_true q28
            refine start_ (n := 13) (S := fun w' => True) (ds := []) #[false, false, false, false, false, false, false, false, false, false, false, false, false] (by kernel_rfl) rfl rfl trivial (fun hHeld => ?_); refine with_tabW rudderlaw13_ParityFour.tab10 rudderlaw13_ParityFour.bits10 (fun HT_ HW_ => ?_)
            generalize w22.drew = w25 at HO105 BK101 BK102 HB HR112 HR125 hHeld ⊢
            refine pure_ (i := 1) (N := some 72) (v := ?_) (a' := ?_) #[false, true, false, false, false, false, false, false, false, false, false, false, false] rfl rfl (any_of HT_.out (by kernel_rfl)) (fun _ _ _ h => h) (Or.inl ⟨by rfl, ?_⟩) ?_ ?_
            rotate_left
            · intro w'
              go_simp
              with_reducible rfl
            rotate_left
            · simp only [Act.put, List.setIfInBounds_toArray, List.set_cons_zero, List.set_cons_succ, i64_w, i32_w]
              rfl
            refine pure_ (i := 2) (N := some 73) (v := ?_) (a' := ?_) #[false, true, true, false, false, false, false, false, false, false, false, false, false] rfl rfl (any_of HT_.out (by kernel_rfl)) (fun _ _ _ h => h) (Or.inl ⟨by rfl, ?_⟩) ?_ ?_
            rotate_left
            · intro w'
              go_simp
              with_reducible rfl
            rotate_left
            · simp only [Act.put, List.setIfInBounds_toArray, List.set_cons_zero, List.set_cons_succ, i64_w, i32_w]
              rfl
            refine pure_ (i := 3) (N := some 74) (v := ?_) (a' := ?_) #[false, true, true, true, false, false, false, false, false, false, false, false, false] rfl rfl (any_of HT_.out (by kernel_rfl)) (fun _ _ _ h => h) (Or.inl ⟨by rfl, ?_⟩) ?_ ?_
            rotate_left
            · intro w'
              go_simp
              with_reducible rfl
            rotate_left
            · simp only [Act.put, List.setIfInBounds_toArray, List.set_cons_zero, List.set_cons_succ, i64_w, i32_w]
              rfl
            refine pure_ (i := 5) (N := some 76) (v := ?_) (a' := ?_) #[false, true, true, true, false, true, false, false, false, false, false, false, false] rfl rfl (any_of HT_.out (by kernel_rfl)) (fun _ _ _ h => h) (Or.inl ⟨by rfl, ?_⟩) ?_ ?_
            rotate_left
            · intro w'
              go_simp
              with_reducible rfl
            rotate_left
            · simp only [Act.put, List.setIfInBounds_toArray, List.set_cons_zero, List.set_cons_succ, i64_w, i32_w]
              rfl
            refine pure_ (i := 8) (N := some 79) (v := ?_) (a' := ?_) #[false, true, true, true, false, true, false, false, true, false, false, false, false] rfl rfl (any_of HT_.out (by kernel_rfl)) (fun _ _ _ h => h) (Or.inl ⟨by rfl, ?_⟩) ?_ ?_
            rotate_left
            · intro w'
              go_simp
              with_reducible rfl
            rotate_left
            · simp only [Act.put, List.setIfInBounds_toArray, List.set_cons_zero, List.set_cons_succ, i64_w, i32_w]
              rfl
            refine pure_ (i := 9) (N := some 80) (v := ?_) (a' := ?_) #[false, true, true, true, false, true, false, false, true, true, false, false, false] rfl rfl (any_of HT_.out (by kernel_rfl)) (fun _ _ _ h => h) (Or.inl ⟨by rfl, ?_⟩) ?_ ?_
            rotate_left
            · intro w'
              go_simp
              with_reducible rfl
            rotate_left
            · simp only [Act.put, List.setIfInBounds_toArray, List.set_cons_zero, List.set_cons_succ, i64_w, i32_w]
              rfl
            refine pure_ (i := 10) (N := some 81) (v := ?_) (a' := ?_) #[false, true, true, true, false, true, false, false, true, true, true, false, false] rfl rfl (any_of HT_.out (by kernel_rfl)) (fun _ _ _ h => h) (Or.inl ⟨by rfl, ?_⟩) ?_ ?_
            rotate_left
            · intro w'
              go_simp
              with_reducible rfl
            rotate_left
            · simp only [Act.put, List.setIfInBounds_toArray, List.set_cons_zero, List.set_cons_succ, i64_w, i32_w]
              rfl
            refine join_ (σ := Value × Value × Value) 3 #[true, true, true, true, true, true, true, false, true, true, true, false, false] (fun s_ => [(71, s_.1), (75, s_.2.1), (77, s_.2.2)]) (fun s_ w' => (Kd.R (Kd.int .i64) 3 w' w.heap.size (fun k_ => some k_ ≠ (s_.2.1 : Value).ownBlock ∧ some k_ ≠ (s_.2.2 : Value).ownBlock) (.slice Ao27 y103.length co27) y103) ∧ (Kd.R (Kd.int .i64) 3 w' w.heap.size (fun k_ => some k_ ≠ (.slice Ao27 y103.length co27 : Value).ownBlock ∧ some k_ ≠ (s_.2.2 : Value).ownBlock) s_.2.1 y113) ∧ (Kd.R (Kd.int .i64) 3 w' w.heap.size (fun k_ => some k_ ≠ (.slice Ao27 y103.length co27 : Value).ownBlock ∧ some k_ ≠ (s_.2.1 : Value).ownBlock) s_.2.2 y116) ∧ (w'.heap[gb101]? = some (.cells #[.int .u16 a1_0, .int .u16 a1_1, .int .u16 a1_2] 44 (0, 0))) ∧ (w'.heap[gb102]? = some (.cells #[.int .i32 a2_0, .int .u8 a2_1] 87 (0, 0))) ∧ (Below w.heap.size w w')) ?_ ?_
            rotate_left
            · intro hCont
              refine two_ (i := 0) (j := 6) (Ni := some 71) (Nj := some 77) #[true, true, true, true, false, true, false, false, true, true, true, false, false] #[false, true, true, true, false, true, true, false, true, true, true, false, false] rfl rfl rfl rfl (two_of HT_.out (by kernel_rfl)) (by decide) (by decide) (fun K hK => ?_) (fun K hK => ?_)
              · skip
                refine Kd.R_lit_step (Kd.int .i64) _ 3 ?hg (N := 71) ?hd (xs := ([] : List Int)) (inner := []) (ok := fun _ => True) (okp := fun _ => True) ?hr ?hp (fun _ hk => hk) trivial (Below.refl _ _) (Nat.le_refl _) (by simp) ?_; (case hd => rfl); (case hg => rfl); (case hr => first | (go_simp; done) | (go_simp; rfl)); (case hp => exact (Reps.none _ _))
                intro v107 w29 ho30 hb hg_ hnew_
                clear hg_ hnew_
                (first | rw [← Ny106.out] at ho30 | (simp only [Int.reduceToNat] at ho30; rw [← Ny106.out] at ho30))
                have n0_ := Aside0.mk (Kd.R_elder' (by (with_reducible repeat (first | apply Kd.R_alloc | apply Kd.R_drewN | apply Kd.R_drew)); exact HO105.out) (Kd.R_base ho30) hb)
                have n1_ := Aside0.mk (Kd.R_lower (Kd.R_new' ho30 (Kd.R_lt (by (with_reducible repeat (first | apply Kd.R_alloc | apply Kd.R_drewN | apply Kd.R_drew)); exact HO105.out))) (below_size (by repeat (first | (with_reducible first | exact HB.out | apply below_alloc | apply pw_below_drewN | apply below_drew1 | refine below_set ?_ GE101.out | refine below_set ?_ GE102.out) | exact HB.out))))
                have n2_ := Aside0.mk (blk_below (g := gb101) (o := .cells #[.int .u16 a1_0, .int .u16 a1_1, .int .u16 a1_2] 44 (0, 0)) (by (with_reducible repeat (first | refine blk_drewN ?_ _ | refine blk_drew ?_ | refine blk_alloc ?_ _)); exact BK101.out) hb)
                have n3_ := Aside0.mk (blk_below (g := gb102) (o := .cells #[.int .i32 a2_0, .int .u8 a2_1] 87 (0, 0)) (by (with_reducible repeat (first | refine blk_drewN ?_ _ | refine blk_drew ?_ | refine blk_alloc ?_ _)); exact BK102.out) hb)
                have n4_ := Aside0.mk (Kd.C_below (by repeat (first | (with_reducible exact HR112.out) | (with_reducible refine Kd.C_alloc ?_ _) | (with_reducible refine Kd.C_drewN ?_ _) | (with_reducible refine Kd.C_drew ?_) | exact HR112.out)) hb)
                have n5_ := Aside0.mk (Kd.C_below (by repeat (first | (with_reducible exact HR125.out) | (with_reducible refine Kd.C_alloc ?_ _) | (with_reducible refine Kd.C_drewN ?_ _) | (with_reducible refine Kd.C_drew ?_) | exact HR125.out)) hb)
                have n6_ := Aside0.mk (below_step (by repeat (first | (with_reducible first | exact HB.out | apply below_alloc | apply pw_below_drewN | apply below_drew1 | refine below_set ?_ GE101.out | refine below_set ?_ GE102.out) | exact HB.out)) hb)
                clear HO105
                clear BK101
                clear BK102
                clear HR112
                clear HR125
                clear HB
                have HO105 := n0_
                have HO108 := n1_
                have BK101 := n2_
                have BK102 := n3_
                have HR112 := n4_
                have HR125 := n5_
                have HB := n6_
                clear n0_ n1_ n2_ n3_ n4_ n5_ n6_
                clear hb ho30
                refine hK.out _ _ trivial (fun hHeld => ?_)
                clear hK K
                refine norm_ (a' := ?_) ?_ ?_
                rotate_left
                · show Act.put _ (some 71) _ = _
                  simp only [Act.put, List.setIfInBounds_toArray, List.set_cons_zero, List.set_cons_succ, i64_w, i32_w]
                  rfl
                refine two_ (i := 4) (j := 6) (Ni := some 75) (Nj := some 77) #[true, true, true, true, true, true, false, false, true, true, true, false, false] #[true, true, true, true, false, true, true, false, true, true, true, false, false] rfl rfl rfl rfl (two_of HT_.out (by kernel_rfl)) (by decide) (by decide) (fun K hK => ?_) (fun K hK => ?_)
                · skip
                  refine Kd.R_append_rows_step (Kd.int .i64) (w0 := w) w.heap.size (by rfl) (.tmp 71) (.tmp 74) 29 3 (.int .i64 0) 8 rfl Try.underlying29 info3 rfl (by decide) (by omega) v107 y106 y109 _ _ _ (fun k_ => some k_ ≠ (.slice Ao27 y103.length co27 : Value).ownBlock) (fun _ => False) rfl rfl ?aO ?aR (fun _ _ h => h) (fun _ h => h.elim) ?aF ?aB ?aS ?aL ?_
                  (case aR => repeat (first | exact (by repeat (first | (with_reducible exact HR112.out) | (with_reducible refine Kd.C_alloc ?_ _) | (with_reducible refine Kd.C_drewN ?_ _) | (with_reducible refine Kd.C_drew ?_) | exact HR112.out)) | (with_reducible refine Kd.C_alloc ?_ _) | (with_reducible refine Kd.C_drewN ?_ _) | (with_reducible refine Kd.C_drew ?_)))
                  (case aB => exact (by repeat (first | (with_reducible first | exact HB.out | apply below_alloc | apply pw_below_drewN | apply below_drew1 | refine below_set ?_ GE101.out | refine below_set ?_ GE102.out) | exact HB.out)))
                  (case aF => exact (fun k_ hk => Kd.fresh' (Kd.R_lt (by (with_reducible repeat (first | apply Kd.R_alloc | apply Kd.R_drewN | apply Kd.R_drew)); exact HO105.out)) k_ hk))
                  (case aO => exact (by (with_reducible repeat (first | apply Kd.R_alloc | apply Kd.R_drewN | apply Kd.R_drew)); exact Kd.R_mono HO108.out (fun _ hk => hk.2)))
                  (case aS => exact (below_size (by repeat (first | (with_reducible first | exact HB.out | apply below_alloc | apply pw_below_drewN | apply below_drew1 | refine below_set ?_ GE101.out | refine below_set ?_ GE102.out) | exact HB.out))))
                  (case aL => have := LMc11.out; omega)
                  intro v114 w31 ho hb hg hat
                  rw [← Ny113.out] at ho
                  have n0_ := Aside0.mk (blk_grown (g := gb101) (o := .cells #[.int .u16 a1_0, .int .u16 a1_1, .int .u16 a1_2] 44 (0, 0)) (by (with_reducible repeat (first | refine blk_drewN ?_ _ | refine blk_drew ?_ | refine blk_alloc ?_ _)); exact BK101.out) hg (Kd.R_ne HO108.out BK101.out (by decide)))
                  have n1_ := Aside0.mk (blk_grown (g := gb102) (o := .cells #[.int .i32 a2_0, .int .u8 a2_1] 87 (0, 0)) (by (with_reducible repeat (first | refine blk_drewN ?_ _ | refine blk_drew ?_ | refine blk_alloc ?_ _)); exact BK102.out) hg (Kd.R_ne HO108.out BK102.out (by decide)))
                  have n2_ := Aside0.mk (Kd.R_after (ok := (fun _ => True)) (by (with_reducible repeat (first | apply Kd.R_alloc | apply Kd.R_drewN | apply Kd.R_drew)); exact HO105.out) hg hat)
                  have n3_ := Aside0.mk (hb)
                  have n4_ := Aside0.mk ((show Kd.C (Kd.int .i64) w31 Ao27 y109.length y109 from by rw [Ny109.out]; exact Kd.C_take (m := ((ji8) : Int).toNat) ((Kd.R_reads' (Kd.R_after (ok := (fun _ => True)) (by (with_reducible repeat (first | apply Kd.R_alloc | apply Kd.R_drewN | apply Kd.R_drew)); exact HO105.out) hg hat)).2.2) KL26.out))
                  have n5_ := Aside0.mk ((show Kd.C (Kd.int .i64) w31 A28 y122.length y122 from by rw [Ny122.out, KA28.out]; exact Kd.C_drop (m := ((ji8) : Int).toNat) (c := co27) ((Kd.R_reads' (Kd.R_after (ok := (fun _ => True)) (by (with_reducible repeat (first | apply Kd.R_alloc | apply Kd.R_drewN | apply Kd.R_drew)); exact HO105.out) hg hat)).2.2) KL28.out ((Kd.R_reads' (Kd.R_after (ok := (fun _ => True)) (by (with_reducible repeat (first | apply Kd.R_alloc | apply Kd.R_drewN | apply Kd.R_drew)); exact HO105.out) hg hat)).2.1)))
                  have n6_ := Aside0.mk (ho)
                  clear BK101
                  clear BK102
                  clear HO105
                  clear HB
                  clear HR112
                  clear HR125
                  clear HO108
                  have BK101 := n0_
                  have BK102 := n1_
                  have HO105 := n2_
                  have HB := n3_
                  have HR112 := n4_
                  have HR125 := n5_
                  have HO115 := n6_
                  clear n0_ n1_ n2_ n3_ n4_ n5_ n6_
                  clear ho hb hg hat
                  refine hK.out _ _ trivial (fun hHeld => ?_)
                  clear hK K
                  refine norm_ (a' := ?_) ?_ ?_
                  rotate_left
                  · show Act.put _ (some 75) _ = _
                    simp only [Act.put, List.setIfInBounds_toArray, List.set_cons_zero, List.set_cons_succ, i64_w, i32_w]
                    rfl
                  refine one_ (i := 6) (N := some 77) #[true, true, true, true, true, true, true, false, true, true, true, false, false] rfl rfl (one_of HT_.out (by kernel_rfl)) (by decide) (fun K hK => ?_)
                  refine Kd.R_lit_step (Kd.int .i64) _ 3 ?hg (N := 77) ?hd (xs := ([wrap64 (a2_0)] : List Int)) (inner := [.int .i64 (wrap64 (a2_0))]) (ok := fun _ => True) (okp := fun _ => True) ?hr ?hp (fun _ hk => hk) trivial (Below.refl _ _) (Nat.le_refl _) (by simp) ?_; (case hd => rfl); (case hg => rfl); (case hr => first | (go_simp; done) | (go_simp; rfl)); (case hp => exact (Reps.one (show Kd.M (Kd.int .i64) _ _ _ (wrap64 (a2_0)) [.int .i64 (wrap64 (a2_0))] from rfl) (Reps.none _ _)))
                  intro v117 w32 ho33 hb hg_ hnew_
                  clear hg_ hnew_
                  (first | rw [← Ny116.out] at ho33 | (simp only [Int.reduceToNat] at ho33; rw [← Ny116.out] at ho33))
                  have n0_ := Aside0.mk (Kd.R_elder' (by (with_reducible repeat (first | apply Kd.R_alloc | apply Kd.R_drewN | apply Kd.R_drew)); exact HO105.out) (Kd.R_base ho33) hb)
                  have n1_ := Aside0.mk (Kd.R_elder' (by (with_reducible repeat (first | apply Kd.R_alloc | apply Kd.R_drewN | apply Kd.R_drew)); exact HO115.out) (Kd.R_base ho33) hb)
                  have n2_ := Aside0.mk (Kd.R_lower (Kd.R_new' (Kd.R_new' ho33 (Kd.R_lt (by (with_reducible repeat (first | apply Kd.R_alloc | apply Kd.R_drewN | apply Kd.R_drew)); exact HO105.out))) (Kd.R_lt (by (with_reducible repeat (first | apply Kd.R_alloc | apply Kd.R_drewN | apply Kd.R_drew)); exact HO115.out))) (below_size (by repeat (first | (with_reducible first | exact HB.out | apply below_alloc | apply pw_below_drewN | apply below_drew1 | refine below_set ?_ GE101.out | refine below_set ?_ GE102.out) | exact HB.out))))
                  have n3_ := Aside0.mk (blk_below (g := gb101) (o := .cells #[.int .u16 a1_0, .int .u16 a1_1, .int .u16 a1_2] 44 (0, 0)) (by (with_reducible repeat (first | refine blk_drewN ?_ _ | refine blk_drew ?_ | refine blk_alloc ?_ _)); exact BK101.out) hb)
                  have n4_ := Aside0.mk (blk_below (g := gb102) (o := .cells #[.int .i32 a2_0, .int .u8 a2_1] 87 (0, 0)) (by (with_reducible repeat (first | refine blk_drewN ?_ _ | refine blk_drew ?_ | refine blk_alloc ?_ _)); exact BK102.out) hb)
                  have n5_ := Aside0.mk (Kd.C_below (by repeat (first | (with_reducible exact HR112.out) | (with_reducible refine Kd.C_alloc ?_ _) | (with_reducible refine Kd.C_drewN ?_ _) | (with_reducible refine Kd.C_drew ?_) | exact HR112.out)) hb)
                  have n6_ := Aside0.mk (Kd.C_below (by repeat (first | (with_reducible exact HR125.out) | (with_reducible refine Kd.C_alloc ?_ _) | (with_reducible refine Kd.C_drewN ?_ _) | (with_reducible refine Kd.C_drew ?_) | exact HR125.out)) hb)
                  have n7_ := Aside0.mk (below_step (by repeat (first | (with_reducible first | exact HB.out | apply below_alloc | apply pw_below_drewN | apply below_drew1 | refine below_set ?_ GE101.out | refine below_set ?_ GE102.out) | exact HB.out)) hb)
                  clear HO105
                  clear HO115
                  clear BK101
                  clear BK102
                  clear HR112
                  clear HR125
                  clear HB
                  have HO105 := n0_
                  have HO115 := n1_
                  have HO118 := n2_
                  have BK101 := n3_
                  have BK102 := n4_
                  have HR112 := n5_
                  have HR125 := n6_
                  have HB := n7_
                  clear n0_ n1_ n2_ n3_ n4_ n5_ n6_ n7_
                  clear hb ho33
                  refine hK.out _ _ trivial (fun hHeld => ?_)
                  clear hK K
                  refine norm_ (a' := ?_) ?_ ?_
                  rotate_left
                  · show Act.put _ (some 77) _ = _
                    simp only [Act.put, List.setIfInBounds_toArray, List.set_cons_zero, List.set_cons_succ, i64_w, i32_w]
                    rfl
                  exact norm_ (by simp only [putAll, Act.put, List.setIfInBounds_toArray, List.set_cons_zero, List.set_cons_succ]) (hCont (v107, v114, v117) _ ⟨(by (with_reducible repeat (first | apply Kd.R_alloc | apply Kd.R_drewN | apply Kd.R_drew)); exact Kd.R_mono HO105.out (fun _ hk => ⟨hk.1.2, hk.2⟩)), (by (with_reducible repeat (first | apply Kd.R_alloc | apply Kd.R_drewN | apply Kd.R_drew)); exact HO115.out), (by (with_reducible repeat (first | apply Kd.R_alloc | apply Kd.R_drewN | apply Kd.R_drew)); exact Kd.R_mono HO118.out (fun _ hk => ⟨hk.1.2, hk.2⟩)), (by (with_reducible repeat (first | refine blk_drewN ?_ _ | refine blk_drew ?_ | refine blk_alloc ?_ _)); exact BK101.out), (by (with_reducible repeat (first | refine blk_drewN ?_ _ | refine blk_drew ?_ | refine blk_alloc ?_ _)); exact BK102.out), (by repeat (first | (with_reducible first | exact HB.out | apply below_alloc | apply pw_below_drewN | apply below_drew1 | refine below_set ?_ GE101.out | refine below_set ?_ GE102.out) | exact HB.out))⟩)
                · skip
                  refine Kd.R_lit_step (Kd.int .i64) _ 3 ?hg (N := 77) ?hd (xs := ([wrap64 (a2_0)] : List Int)) (inner := [.int .i64 (wrap64 (a2_0))]) (ok := fun _ => True) (okp := fun _ => True) ?hr ?hp (fun _ hk => hk) trivial (Below.refl _ _) (Nat.le_refl _) (by simp) ?_; (case hd => rfl); (case hg => rfl); (case hr => first | (go_simp; done) | (go_simp; rfl)); (case hp => exact (Reps.one (show Kd.M (Kd.int .i64) _ _ _ (wrap64 (a2_0)) [.int .i64 (wrap64 (a2_0))] from rfl) (Reps.none _ _)))
                  intro v117 w31 ho32 hb hg_ hnew_
                  clear hg_ hnew_
                  (first | rw [← Ny116.out] at ho32 | (simp only [Int.reduceToNat] at ho32; rw [← Ny116.out] at ho32))
                  have n0_ := Aside0.mk (Kd.R_elder' (by (with_reducible repeat (first | apply Kd.R_alloc | apply Kd.R_drewN | apply Kd.R_drew)); exact HO105.out) (Kd.R_base ho32) hb)
                  have n1_ := Aside0.mk (Kd.R_elder' (by (with_reducible repeat (first | apply Kd.R_alloc | apply Kd.R_drewN | apply Kd.R_drew)); exact HO108.out) (Kd.R_base ho32) hb)
                  have n2_ := Aside0.mk (Kd.R_lower (Kd.R_new' (Kd.R_new' ho32 (Kd.R_lt (by (with_reducible repeat (first | apply Kd.R_alloc | apply Kd.R_drewN | apply Kd.R_drew)); exact HO105.out))) (Kd.R_lt (by (with_reducible repeat (first | apply Kd.R_alloc | apply Kd.R_drewN | apply Kd.R_drew)); exact HO108.out))) (below_size (by repeat (first | (with_reducible first | exact HB.out | apply below_alloc | apply pw_below_drewN | apply below_drew1 | refine below_set ?_ GE101.out | refine below_set ?_ GE102.out) | exact HB.out))))
                  have n3_ := Aside0.mk (blk_below (g := gb101) (o := .cells #[.int .u16 a1_0, .int .u16 a1_1, .int .u16 a1_2] 44 (0, 0)) (by (with_reducible repeat (first | refine blk_drewN ?_ _ | refine blk_drew ?_ | refine blk_alloc ?_ _)); exact BK101.out) hb)
                  have n4_ := Aside0.mk (blk_below (g := gb102) (o := .cells #[.int .i32 a2_0, .int .u8 a2_1] 87 (0, 0)) (by (with_reducible repeat (first | refine blk_drewN ?_ _ | refine blk_drew ?_ | refine blk_alloc ?_ _)); exact BK102.out) hb)
                  have n5_ := Aside0.mk (Kd.C_below (by repeat (first | (with_reducible exact HR112.out) | (with_reducible refine Kd.C_alloc ?_ _) | (with_reducible refine Kd.C_drewN ?_ _) | (with_reducible refine Kd.C_drew ?_) | exact HR112.out)) hb)
                  have n6_ := Aside0.mk (Kd.C_below (by repeat (first | (with_reducible exact HR125.out) | (with_reducible refine Kd.C_alloc ?_ _) | (with_reducible refine Kd.C_drewN ?_ _) | (with_reducible refine Kd.C_drew ?_) | exact HR125.out)) hb)
                  have n7_ := Aside0.mk (below_step (by repeat (first | (with_reducible first | exact HB.out | apply below_alloc | apply pw_below_drewN | apply below_drew1 | refine below_set ?_ GE101.out | refine below_set ?_ GE102.out) | exact HB.out)) hb)
                  clear HO105
                  clear HO108
                  clear BK101
                  clear BK102
                  clear HR112
                  clear HR125
                  clear HB
                  have HO105 := n0_
                  have HO108 := n1_
                  have HO118 := n2_
                  have BK101 := n3_
                  have BK102 := n4_
                  have HR112 := n5_
                  have HR125 := n6_
                  have HB := n7_
                  clear n0_ n1_ n2_ n3_ n4_ n5_ n6_ n7_
                  clear hb ho32
                  refine hK.out _ _ trivial (fun hHeld => ?_)
                  clear hK K
                  refine norm_ (a' := ?_) ?_ ?_
                  rotate_left
                  · show Act.put _ (some 77) _ = _
                    simp only [Act.put, List.setIfInBounds_toArray, List.set_cons_zero, List.set_cons_succ, i64_w, i32_w]
                    rfl
                  refine one_ (i := 4) (N := some 75) #[true, true, true, true, true, true, true, false, true, true, true, false, false] rfl rfl (one_of HT_.out (by kernel_rfl)) (by decide) (fun K hK => ?_)
                  refine Kd.R_append_rows_step (Kd.int .i64) (w0 := w) w.heap.size (by rfl) (.tmp 71) (.tmp 74) 29 3 (.int .i64 0) 8 rfl Try.underlying29 info3 rfl (by decide) (by omega) v107 y106 y109 _ _ _ (fun k_ => some k_ ≠ (.slice Ao27 y103.length co27 : Value).ownBlock ∧ some k_ ≠ (v117 : Value).ownBlock) (fun _ => False) rfl rfl ?aO ?aR (fun _ _ h => h) (fun _ h => h.elim) ?aF ?aB ?aS ?aL ?_
                  (case aR => repeat (first | exact (by repeat (first | (with_reducible exact HR112.out) | (with_reducible refine Kd.C_alloc ?_ _) | (with_reducible refine Kd.C_drewN ?_ _) | (with_reducible refine Kd.C_drew ?_) | exact HR112.out)) | (with_reducible refine Kd.C_alloc ?_ _) | (with_reducible refine Kd.C_drewN ?_ _) | (with_reducible refine Kd.C_drew ?_)))
                  (case aB => exact (by repeat (first | (with_reducible first | exact HB.out | apply below_alloc | apply pw_below_drewN | apply below_drew1 | refine below_set ?_ GE101.out | refine below_set ?_ GE102.out) | exact HB.out)))
                  (case aF => exact (fun k_ hk => ⟨Kd.fresh' (Kd.R_lt (by (with_reducible repeat (first | apply Kd.R_alloc | apply Kd.R_drewN | apply Kd.R_drew)); exact HO105.out)) k_ hk, Kd.fresh' (Kd.R_lt (by (with_reducible repeat (first | apply Kd.R_alloc | apply Kd.R_drewN | apply Kd.R_drew)); exact HO118.out)) k_ hk⟩))
                  (case aO => exact (by (with_reducible repeat (first | apply Kd.R_alloc | apply Kd.R_drewN | apply Kd.R_drew)); exact Kd.R_mono HO108.out (fun _ hk => ⟨hk.1.2, hk.2⟩)))
                  (case aS => exact (below_size (by repeat (first | (with_reducible first | exact HB.out | apply below_alloc | apply pw_below_drewN | apply below_drew1 | refine below_set ?_ GE101.out | refine below_set ?_ GE102.out) | exact HB.out))))
                  (case aL => have := LMc11.out; omega)
                  intro v114 w33 ho hb hg hat
                  rw [← Ny113.out] at ho
                  have n0_ := Aside0.mk (blk_grown (g := gb101) (o := .cells #[.int .u16 a1_0, .int .u16 a1_1, .int .u16 a1_2] 44 (0, 0)) (by (with_reducible repeat (first | refine blk_drewN ?_ _ | refine blk_drew ?_ | refine blk_alloc ?_ _)); exact BK101.out) hg (Kd.R_ne HO108.out BK101.out (by decide)))
                  have n1_ := Aside0.mk (blk_grown (g := gb102) (o := .cells #[.int .i32 a2_0, .int .u8 a2_1] 87 (0, 0)) (by (with_reducible repeat (first | refine blk_drewN ?_ _ | refine blk_drew ?_ | refine blk_alloc ?_ _)); exact BK102.out) hg (Kd.R_ne HO108.out BK102.out (by decide)))
                  have n2_ := Aside0.mk (Kd.R_after (ok := (fun k_ => some k_ ≠ (v117 : Value).ownBlock)) (by (with_reducible repeat (first | apply Kd.R_alloc | apply Kd.R_drewN | apply Kd.R_drew)); exact Kd.R_mono HO105.out (fun _ hk => ⟨hk.2, hk.1.2⟩)) hg hat)
                  have n3_ := Aside0.mk (Kd.R_after (ok := (fun k_ => some k_ ≠ (.slice Ao27 y103.length co27 : Value).ownBlock)) (by (with_reducible repeat (first | apply Kd.R_alloc | apply Kd.R_drewN | apply Kd.R_drew)); exact Kd.R_mono HO118.out (fun _ hk => ⟨hk.1.2, hk.2⟩)) hg hat)
                  have n4_ := Aside0.mk (hb)
                  have n5_ := Aside0.mk ((show Kd.C (Kd.int .i64) w33 Ao27 y109.length y109 from by rw [Ny109.out]; exact Kd.C_take (m := ((ji8) : Int).toNat) ((Kd.R_reads' (Kd.R_after (ok := (fun k_ => some k_ ≠ (v117 : Value).ownBlock)) (by (with_reducible repeat (first | apply Kd.R_alloc | apply Kd.R_drewN | apply Kd.R_drew)); exact Kd.R_mono HO105.out (fun _ hk => ⟨hk.2, hk.1.2⟩)) hg hat)).2.2) KL26.out))
                  have n6_ := Aside0.mk ((show Kd.C (Kd.int .i64) w33 A28 y122.length y122 from by rw [Ny122.out, KA28.out]; exact Kd.C_drop (m := ((ji8) : Int).toNat) (c := co27) ((Kd.R_reads' (Kd.R_after (ok := (fun k_ => some k_ ≠ (v117 : Value).ownBlock)) (by (with_reducible repeat (first | apply Kd.R_alloc | apply Kd.R_drewN | apply Kd.R_drew)); exact Kd.R_mono HO105.out (fun _ hk => ⟨hk.2, hk.1.2⟩)) hg hat)).2.2) KL28.out ((Kd.R_reads' (Kd.R_after (ok := (fun k_ => some k_ ≠ (v117 : Value).ownBlock)) (by (with_reducible repeat (first | apply Kd.R_alloc | apply Kd.R_drewN | apply Kd.R_drew)); exact Kd.R_mono HO105.out (fun _ hk => ⟨hk.2, hk.1.2⟩)) hg hat)).2.1)))
                  have n7_ := Aside0.mk (ho)
                  clear BK101
                  clear BK102
                  clear HO105
                  clear HO118
                  clear HB
                  clear HR112
                  clear HR125
                  clear HO108
                  have BK101 := n0_
                  have BK102 := n1_
                  have HO105 := n2_
                  have HO118 := n3_
                  have HB := n4_
                  have HR112 := n5_
                  have HR125 := n6_
                  have HO115 := n7_
                  clear n0_ n1_ n2_ n3_ n4_ n5_ n6_ n7_
                  clear ho hb hg hat
                  refine hK.out _ _ trivial (fun hHeld => ?_)
                  clear hK K
                  refine norm_ (a' := ?_) ?_ ?_
                  rotate_left
                  · show Act.put _ (some 75) _ = _
                    simp only [Act.put, List.setIfInBounds_toArray, List.set_cons_zero, List.set_cons_succ, i64_w, i32_w]
                    rfl
                  exact norm_ (by simp only [putAll, Act.put, List.setIfInBounds_toArray, List.set_cons_zero, List.set_cons_succ]) (hCont (v107, v114, v117) _ ⟨(by (with_reducible repeat (first | apply Kd.R_alloc | apply Kd.R_drewN | apply Kd.R_drew)); exact Kd.R_mono HO105.out (fun _ hk => ⟨hk.2, hk.1⟩)), (by (with_reducible repeat (first | apply Kd.R_alloc | apply Kd.R_drewN | apply Kd.R_drew)); exact HO115.out), (by (with_reducible repeat (first | apply Kd.R_alloc | apply Kd.R_drewN | apply Kd.R_drew)); exact HO118.out), (by (with_reducible repeat (first | refine blk_drewN ?_ _ | refine blk_drew ?_ | refine blk_alloc ?_ _)); exact BK101.out), (by (with_reducible repeat (first | refine blk_drewN ?_ _ | refine blk_drew ?_ | refine blk_alloc ?_ _)); exact BK102.out), (by repeat (first | (with_reducible first | exact HB.out | apply below_alloc | apply pw_below_drewN | apply below_drew1 | refine below_set ?_ GE101.out | refine below_set ?_ GE102.out) | exact HB.out))⟩)
              · skip
                refine Kd.R_lit_step (Kd.int .i64) _ 3 ?hg (N := 77) ?hd (xs := ([wrap64 (a2_0)] : List Int)) (inner := [.int .i64 (wrap64 (a2_0))]) (ok := fun _ => True) (okp := fun _ => True) ?hr ?hp (fun _ hk => hk) trivial (Below.refl _ _) (Nat.le_refl _) (by simp) ?_; (case hd => rfl); (case hg => rfl); (case hr => first | (go_simp; done) | (go_simp; rfl)); (case hp => exact (Reps.one (show Kd.M (Kd.int .i64) _ _ _ (wrap64 (a2_0)) [.int .i64 (wrap64 (a2_0))] from rfl) (Reps.none _ _)))
                intro v117 w29 ho30 hb hg_ hnew_
                clear hg_ hnew_
                (first | rw [← Ny116.out] at ho30 | (simp only [Int.reduceToNat] at ho30; rw [← Ny116.out] at ho30))
                have n0_ := Aside0.mk (Kd.R_elder' (by (with_reducible repeat (first | apply Kd.R_alloc | apply Kd.R_drewN | apply Kd.R_drew)); exact HO105.out) (Kd.R_base ho30) hb)
                have n1_ := Aside0.mk (Kd.R_lower (Kd.R_new' ho30 (Kd.R_lt (by (with_reducible repeat (first | apply Kd.R_alloc | apply Kd.R_drewN | apply Kd.R_drew)); exact HO105.out))) (below_size (by repeat (first | (with_reducible first | exact HB.out | apply below_alloc | apply pw_below_drewN | apply below_drew1 | refine below_set ?_ GE101.out | refine below_set ?_ GE102.out) | exact HB.out))))
                have n2_ := Aside0.mk (blk_below (g := gb101) (o := .cells #[.int .u16 a1_0, .int .u16 a1_1, .int .u16 a1_2] 44 (0, 0)) (by (with_reducible repeat (first | refine blk_drewN ?_ _ | refine blk_drew ?_ | refine blk_alloc ?_ _)); exact BK101.out) hb)
                have n3_ := Aside0.mk (blk_below (g := gb102) (o := .cells #[.int .i32 a2_0, .int .u8 a2_1] 87 (0, 0)) (by (with_reducible repeat (first | refine blk_drewN ?_ _ | refine blk_drew ?_ | refine blk_alloc ?_ _)); exact BK102.out) hb)
                have n4_ := Aside0.mk (Kd.C_below (by repeat (first | (with_reducible exact HR112.out) | (with_reducible refine Kd.C_alloc ?_ _) | (with_reducible refine Kd.C_drewN ?_ _) | (with_reducible refine Kd.C_drew ?_) | exact HR112.out)) hb)
                have n5_ := Aside0.mk (Kd.C_below (by repeat (first | (with_reducible exact HR125.out) | (with_reducible refine Kd.C_alloc ?_ _) | (with_reducible refine Kd.C_drewN ?_ _) | (with_reducible refine Kd.C_drew ?_) | exact HR125.out)) hb)
                have n6_ := Aside0.mk (below_step (by repeat (first | (with_reducible first | exact HB.out | apply below_alloc | apply pw_below_drewN | apply below_drew1 | refine below_set ?_ GE101.out | refine below_set ?_ GE102.out) | exact HB.out)) hb)
                clear HO105
                clear BK101
                clear BK102
                clear HR112
                clear HR125
                clear HB
                have HO105 := n0_
                have HO118 := n1_
                have BK101 := n2_
                have BK102 := n3_
                have HR112 := n4_
                have HR125 := n5_
                have HB := n6_
                clear n0_ n1_ n2_ n3_ n4_ n5_ n6_
                clear hb ho30
                refine hK.out _ _ trivial (fun hHeld => ?_)
                clear hK K
                refine norm_ (a' := ?_) ?_ ?_
                rotate_left
                · show Act.put _ (some 77) _ = _
                  simp only [Act.put, List.setIfInBounds_toArray, List.set_cons_zero, List.set_cons_succ, i64_w, i32_w]
                  rfl
                refine one_ (i := 0) (N := some 71) #[true, true, true, true, false, true, true, false, true, true, true, false, false] rfl rfl (one_of HT_.out (by kernel_rfl)) (by decide) (fun K hK => ?_)
                refine Kd.R_lit_step (Kd.int .i64) _ 3 ?hg (N := 71) ?hd (xs := ([] : List Int)) (inner := []) (ok := fun _ => True) (okp := fun _ => True) ?hr ?hp (fun _ hk => hk) trivial (Below.refl _ _) (Nat.le_refl _) (by simp) ?_; (case hd => rfl); (case hg => rfl); (case hr => first | (go_simp; done) | (go_simp; rfl)); (case hp => exact (Reps.none _ _))
                intro v107 w31 ho32 hb hg_ hnew_
                clear hg_ hnew_
                (first | rw [← Ny106.out] at ho32 | (simp only [Int.reduceToNat] at ho32; rw [← Ny106.out] at ho32))
                have n0_ := Aside0.mk (Kd.R_elder' (by (with_reducible repeat (first | apply Kd.R_alloc | apply Kd.R_drewN | apply Kd.R_drew)); exact HO105.out) (Kd.R_base ho32) hb)
                have n1_ := Aside0.mk (Kd.R_elder' (by (with_reducible repeat (first | apply Kd.R_alloc | apply Kd.R_drewN | apply Kd.R_drew)); exact HO118.out) (Kd.R_base ho32) hb)
                have n2_ := Aside0.mk (Kd.R_lower (Kd.R_new' (Kd.R_new' ho32 (Kd.R_lt (by (with_reducible repeat (first | apply Kd.R_alloc | apply Kd.R_drewN | apply Kd.R_drew)); exact HO105.out))) (Kd.R_lt (by (with_reducible repeat (first | apply Kd.R_alloc | apply Kd.R_drewN | apply Kd.R_drew)); exact HO118.out))) (below_size (by repeat (first | (with_reducible first | exact HB.out | apply below_alloc | apply pw_below_drewN | apply below_drew1 | refine below_set ?_ GE101.out | refine below_set ?_ GE102.out) | exact HB.out))))
                have n3_ := Aside0.mk (blk_below (g := gb101) (o := .cells #[.int .u16 a1_0, .int .u16 a1_1, .int .u16 a1_2] 44 (0, 0)) (by (with_reducible repeat (first | refine blk_drewN ?_ _ | refine blk_drew ?_ | refine blk_alloc ?_ _)); exact BK101.out) hb)
                have n4_ := Aside0.mk (blk_below (g := gb102) (o := .cells #[.int .i32 a2_0, .int .u8 a2_1] 87 (0, 0)) (by (with_reducible repeat (first | refine blk_drewN ?_ _ | refine blk_drew ?_ | refine blk_alloc ?_ _)); exact BK102.out) hb)
                have n5_ := Aside0.mk (Kd.C_below (by repeat (first | (with_reducible exact HR112.out) | (with_reducible refine Kd.C_alloc ?_ _) | (with_reducible refine Kd.C_drewN ?_ _) | (with_reducible refine Kd.C_drew ?_) | exact HR112.out)) hb)
                have n6_ := Aside0.mk (Kd.C_below (by repeat (first | (with_reducible exact HR125.out) | (with_reducible refine Kd.C_alloc ?_ _) | (with_reducible refine Kd.C_drewN ?_ _) | (with_reducible refine Kd.C_drew ?_) | exact HR125.out)) hb)
                have n7_ := Aside0.mk (below_step (by repeat (first | (with_reducible first | exact HB.out | apply below_alloc | apply pw_below_drewN | apply below_drew1 | refine below_set ?_ GE101.out | refine below_set ?_ GE102.out) | exact HB.out)) hb)
                clear HO105
                clear HO118
                clear BK101
                clear BK102
                clear HR112
                clear HR125
                clear HB
                have HO105 := n0_
                have HO118 := n1_
                have HO108 := n2_
                have BK101 := n3_
                have BK102 := n4_
                have HR112 := n5_
                have HR125 := n6_
                have HB := n7_
                clear n0_ n1_ n2_ n3_ n4_ n5_ n6_ n7_
                clear hb ho32
                refine hK.out _ _ trivial (fun hHeld => ?_)
                clear hK K
                refine norm_ (a' := ?_) ?_ ?_
                rotate_left
                · show Act.put _ (some 71) _ = _
                  simp only [Act.put, List.setIfInBounds_toArray, List.set_cons_zero, List.set_cons_succ, i64_w, i32_w]
                  rfl
                refine one_ (i := 4) (N := some 75) #[true, true, true, true, true, true, true, false, true, true, true, false, false] rfl rfl (one_of HT_.out (by kernel_rfl)) (by decide) (fun K hK => ?_)
                refine Kd.R_append_rows_step (Kd.int .i64) (w0 := w) w.heap.size (by rfl) (.tmp 71) (.tmp 74) 29 3 (.int .i64 0) 8 rfl Try.underlying29 info3 rfl (by decide) (by omega) v107 y106 y109 _ _ _ (fun k_ => some k_ ≠ (.slice Ao27 y103.length co27 : Value).ownBlock ∧ some k_ ≠ (v117 : Value).ownBlock) (fun _ => False) rfl rfl ?aO ?aR (fun _ _ h => h) (fun _ h => h.elim) ?aF ?aB ?aS ?aL ?_
                (case aR => repeat (first | exact (by repeat (first | (with_reducible exact HR112.out) | (with_reducible refine Kd.C_alloc ?_ _) | (with_reducible refine Kd.C_drewN ?_ _) | (with_reducible refine Kd.C_drew ?_) | exact HR112.out)) | (with_reducible refine Kd.C_alloc ?_ _) | (with_reducible refine Kd.C_drewN ?_ _) | (with_reducible refine Kd.C_drew ?_)))
                (case aB => exact (by repeat (first | (with_reducible first | exact HB.out | apply below_alloc | apply pw_below_drewN | apply below_drew1 | refine below_set ?_ GE101.out | refine below_set ?_ GE102.out) | exact HB.out)))
                (case aF => exact (fun k_ hk => ⟨Kd.fresh' (Kd.R_lt (by (with_reducible repeat (first | apply Kd.R_alloc | apply Kd.R_drewN | apply Kd.R_drew)); exact HO105.out)) k_ hk, Kd.fresh' (Kd.R_lt (by (with_reducible repeat (first | apply Kd.R_alloc | apply Kd.R_drewN | apply Kd.R_drew)); exact HO118.out)) k_ hk⟩))
                (case aO => exact (by (with_reducible repeat (first | apply Kd.R_alloc | apply Kd.R_drewN | apply Kd.R_drew)); exact Kd.R_mono HO108.out (fun _ hk => ⟨hk.1.2, hk.2⟩)))
                (case aS => exact (below_size (by repeat (first | (with_reducible first | exact HB.out | apply below_alloc | apply pw_below_drewN | apply below_drew1 | refine below_set ?_ GE101.out | refine below_set ?_ GE102.out) | exact HB.out))))
                (case aL => have := LMc11.out; omega)
                intro v114 w33 ho hb hg hat
                rw [← Ny113.out] at ho
                have n0_ := Aside0.mk (blk_grown (g := gb101) (o := .cells #[.int .u16 a1_0, .int .u16 a1_1, .int .u16 a1_2] 44 (0, 0)) (by (with_reducible repeat (first | refine blk_drewN ?_ _ | refine blk_drew ?_ | refine blk_alloc ?_ _)); exact BK101.out) hg (Kd.R_ne HO108.out BK101.out (by decide)))
                have n1_ := Aside0.mk (blk_grown (g := gb102) (o := .cells #[.int .i32 a2_0, .int .u8 a2_1] 87 (0, 0)) (by (with_reducible repeat (first | refine blk_drewN ?_ _ | refine blk_drew ?_ | refine blk_alloc ?_ _)); exact BK102.out) hg (Kd.R_ne HO108.out BK102.out (by decide)))
                have n2_ := Aside0.mk (Kd.R_after (ok := (fun k_ => some k_ ≠ (v117 : Value).ownBlock)) (by (with_reducible repeat (first | apply Kd.R_alloc | apply Kd.R_drewN | apply Kd.R_drew)); exact Kd.R_mono HO105.out (fun _ hk => ⟨hk.1.2, hk.2⟩)) hg hat)
                have n3_ := Aside0.mk (Kd.R_after (ok := (fun k_ => some k_ ≠ (.slice Ao27 y103.length co27 : Value).ownBlock)) (by (with_reducible repeat (first | apply Kd.R_alloc | apply Kd.R_drewN | apply Kd.R_drew)); exact Kd.R_mono HO118.out (fun _ hk => ⟨hk.1.2, hk.2⟩)) hg hat)
                have n4_ := Aside0.mk (hb)
                have n5_ := Aside0.mk ((show Kd.C (Kd.int .i64) w33 Ao27 y109.length y109 from by rw [Ny109.out]; exact Kd.C_take (m := ((ji8) : Int).toNat) ((Kd.R_reads' (Kd.R_after (ok := (fun k_ => some k_ ≠ (v117 : Value).ownBlock)) (by (with_reducible repeat (first | apply Kd.R_alloc | apply Kd.R_drewN | apply Kd.R_drew)); exact Kd.R_mono HO105.out (fun _ hk => ⟨hk.1.2, hk.2⟩)) hg hat)).2.2) KL26.out))
                have n6_ := Aside0.mk ((show Kd.C (Kd.int .i64) w33 A28 y122.length y122 from by rw [Ny122.out, KA28.out]; exact Kd.C_drop (m := ((ji8) : Int).toNat) (c := co27) ((Kd.R_reads' (Kd.R_after (ok := (fun k_ => some k_ ≠ (v117 : Value).ownBlock)) (by (with_reducible repeat (first | apply Kd.R_alloc | apply Kd.R_drewN | apply Kd.R_drew)); exact Kd.R_mono HO105.out (fun _ hk => ⟨hk.1.2, hk.2⟩)) hg hat)).2.2) KL28.out ((Kd.R_reads' (Kd.R_after (ok := (fun k_ => some k_ ≠ (v117 : Value).ownBlock)) (by (with_reducible repeat (first | apply Kd.R_alloc | apply Kd.R_drewN | apply Kd.R_drew)); exact Kd.R_mono HO105.out (fun _ hk => ⟨hk.1.2, hk.2⟩)) hg hat)).2.1)))
                have n7_ := Aside0.mk (ho)
                clear BK101
                clear BK102
                clear HO105
                clear HO118
                clear HB
                clear HR112
                clear HR125
                clear HO108
                have BK101 := n0_
                have BK102 := n1_
                have HO105 := n2_
                have HO118 := n3_
                have HB := n4_
                have HR112 := n5_
                have HR125 := n6_
                have HO115 := n7_
                clear n0_ n1_ n2_ n3_ n4_ n5_ n6_ n7_
                clear ho hb hg hat
                refine hK.out _ _ trivial (fun hHeld => ?_)
                clear hK K
                refine norm_ (a' := ?_) ?_ ?_
                rotate_left
                · show Act.put _ (some 75) _ = _
                  simp only [Act.put, List.setIfInBounds_toArray, List.set_cons_zero, List.set_cons_succ, i64_w, i32_w]
                  rfl
                exact norm_ (by simp only [putAll, Act.put, List.setIfInBounds_toArray, List.set_cons_zero, List.set_cons_succ]) (hCont (v107, v114, v117) _ ⟨(by (with_reducible repeat (first | apply Kd.R_alloc | apply Kd.R_drewN | apply Kd.R_drew)); exact Kd.R_mono HO105.out (fun _ hk => ⟨hk.2, hk.1⟩)), (by (with_reducible repeat (first | apply Kd.R_alloc | apply Kd.R_drewN | apply Kd.R_drew)); exact HO115.out), (by (with_reducible repeat (first | apply Kd.R_alloc | apply Kd.R_drewN | apply Kd.R_drew)); exact HO118.out), (by (with_reducible repeat (first | refine blk_drewN ?_ _ | refine blk_drew ?_ | refine blk_alloc ?_ _)); exact BK101.out), (by (with_reducible repeat (first | refine blk_drewN ?_ _ | refine blk_drew ?_ | refine blk_alloc ?_ _)); exact BK102.out), (by repeat (first | (with_reducible first | exact HB.out | apply below_alloc | apply pw_below_drewN | apply below_drew1 | refine below_set ?_ GE101.out | refine below_set ?_ GE102.out) | exact HB.out))⟩)
            rintro ⟨v107, v114, v117⟩ w34 ⟨h0_, h1_, h2_, h3_, h4_, h5_⟩
            have n0_ : Aside0 (Kd.R (Kd.int .i64) 3 w34 w.heap.size (fun k_ => some k_ ≠ (v114 : Value).ownBlock ∧ some k_ ≠ (v117 : Value).ownBlock) (.slice Ao27 y103.length co27) y103) := ⟨h0_⟩
            have n1_ : Aside0 (Kd.R (Kd.int .i64) 3 w34 w.heap.size (fun k_ => some k_ ≠ (.slice Ao27 y103.length co27 : Value).ownBlock ∧ some k_ ≠ (v117 : Value).ownBlock) v114 y113) := ⟨h1_⟩
            have n2_ : Aside0 (Kd.R (Kd.int .i64) 3 w34 w.heap.size (fun k_ => some k_ ≠ (.slice Ao27 y103.length co27 : Value).ownBlock ∧ some k_ ≠ (v114 : Value).ownBlock) v117 y116) := ⟨h2_⟩
            have n3_ : Aside0 (w34.heap[gb101]? = some (.cells #[.int .u16 a1_0, .int .u16 a1_1, .int .u16 a1_2] 44 (0, 0))) := ⟨h3_⟩
            have n4_ : Aside0 (w34.heap[gb102]? = some (.cells #[.int .i32 a2_0, .int .u8 a2_1] 87 (0, 0))) := ⟨h4_⟩
            have n5_ : Aside0 (Below w.heap.size w w34) := ⟨h5_⟩
            clear HO105
            clear BK101
            clear BK102
            clear HB
            clear h0_ h1_ h2_ h3_ h4_ h5_
            have HO105 := n0_
            have HO115 := n1_
            have HO118 := n2_
            have BK101 := n3_
            have BK102 := n4_
            have HB := n5_
            clear n0_ n1_ n2_ n3_ n4_ n5_
            have hHeld := trivial
            obtain ⟨Ao36, co36, eo36⟩ := Kd.R_slice HO118.out
            (first | subst eo36 | (injection eo36 with f1_ f2_ f3_; have f4_ := f1_.symm; have f5_ := f3_.symm; clear f1_ f2_ f3_; subst f4_; subst f5_))
            refine norm_ (a' := ?_) ?_ ?_
            rotate_left
            · simp only [putAll, Act.put, List.setIfInBounds_toArray, List.set_cons_zero, List.set_cons_succ]
              rfl
            refine one_ (i := 7) (N := some 78) #[true, true, true, true, true, true, true, true, true, true, true, false, false] rfl rfl (one_of HT_.out (by kernel_rfl)) (by decide) (fun K hK => ?_)
            refine Kd.R_append_rows_step (Kd.int .i64) (w0 := w) w.heap.size (by rfl) (.tmp 75) (.tmp 77) 29 3 (.int .i64 0) 8 rfl Try.underlying29 info3 rfl (by decide) (by omega) v114 y113 y116 _ _ _ (fun k_ => some k_ ≠ (.slice Ao27 y103.length co27 : Value).ownBlock ∧ some k_ ≠ (.slice Ao36 y116.length co36 : Value).ownBlock) (fun _ => False) rfl rfl ?aO ?aR (fun _ _ h => h) (fun _ h => h.elim) ?aF ?aB ?aS ?aL ?_
            (case aR => repeat (first | exact (Kd.R_reads' HO118.out).2.2 | (with_reducible refine Kd.C_alloc ?_ _) | (with_reducible refine Kd.C_drewN ?_ _) | (with_reducible refine Kd.C_drew ?_)))
            (case aB => exact (by repeat (first | (with_reducible first | exact HB.out | apply below_alloc | apply pw_below_drewN | apply below_drew1 | refine below_set ?_ GE101.out | refine below_set ?_ GE102.out) | exact HB.out)))
            (case aF => exact (fun k_ hk => ⟨Kd.fresh' (Kd.R_lt (by (with_reducible repeat (first | apply Kd.R_alloc | apply Kd.R_drewN | apply Kd.R_drew)); exact HO105.out)) k_ hk, Kd.fresh' (Kd.R_lt (by (with_reducible repeat (first | apply Kd.R_alloc | apply Kd.R_drewN | apply Kd.R_drew)); exact HO118.out)) k_ hk⟩))
            (case aO => exact (by (with_reducible repeat (first | apply Kd.R_alloc | apply Kd.R_drewN | apply Kd.R_drew)); exact HO115.out))
            (case aS => exact (below_size (by repeat (first | (with_reducible first | exact HB.out | apply below_alloc | apply pw_below_drewN | apply below_drew1 | refine below_set ?_ GE101.out | refine below_set ?_ GE102.out) | exact HB.out))))
            (case aL => have := LMc12.out; omega)
            intro v120 w35 ho hb hg hat
            rw [← Ny119.out] at ho
            have n0_ := Aside0.mk (blk_grown (g := gb101) (o := .cells #[.int .u16 a1_0, .int .u16 a1_1, .int .u16 a1_2] 44 (0, 0)) (by (with_reducible repeat (first | refine blk_drewN ?_ _ | refine blk_drew ?_ | refine blk_alloc ?_ _)); exact BK101.out) hg (Kd.R_ne HO115.out BK101.out (by decide)))
            have n1_ := Aside0.mk (blk_grown (g := gb102) (o := .cells #[.int .i32 a2_0, .int .u8 a2_1] 87 (0, 0)) (by (with_reducible repeat (first | refine blk_drewN ?_ _ | refine blk_drew ?_ | refine blk_alloc ?_ _)); exact BK102.out) hg (Kd.R_ne HO115.out BK102.out (by decide)))
            have n2_ := Aside0.mk (Kd.R_after (ok := (fun k_ => some k_ ≠ (.slice Ao36 y116.length co36 : Value).ownBlock)) (by (with_reducible repeat (first | apply Kd.R_alloc | apply Kd.R_drewN | apply Kd.R_drew)); exact Kd.R_mono HO105.out (fun _ hk => ⟨hk.2, hk.1⟩)) hg hat)
            have n3_ := Aside0.mk (Kd.R_after (ok := (fun k_ => some k_ ≠ (.slice Ao27 y103.length co27 : Value).ownBlock)) (by (with_reducible repeat (first | apply Kd.R_alloc | apply Kd.R_drewN | apply Kd.R_drew)); exact HO118.out) hg hat)
            have n4_ := Aside0.mk (hb)
            have n5_ := Aside0.mk (ho)
            clear BK101
            clear BK102
            clear HO105
            clear HO118
            clear HB
            clear HO115
            have BK101 := n0_
            have BK102 := n1_
            have HO105 := n2_
            have HO118 := n3_
            have HB := n4_
            have HO121 := n5_
            clear n0_ n1_ n2_ n3_ n4_ n5_
            clear ho hb hg hat
            refine hK.out _ _ trivial (fun hHeld => ?_)
            clear hK K
            refine norm_ (a' := ?_) ?_ ?_
            rotate_left
            · show Act.put _ (some 78) _ = _
              simp only [Act.put, List.setIfInBounds_toArray, List.set_cons_zero, List.set_cons_succ, i64_w, i32_w]
              rfl
            refine one_ (i := 11) (N := some 82) #[true, true, true, true, true, true, true, true, true, true, true, true, false] rfl rfl (one_of HT_.out (by kernel_rfl)) (by decide) (fun K hK => ?_)
            refine Kd.R_append_rows_step (Kd.int .i64) (w0 := w) w.heap.size (by rfl) (.tmp 78) (.tmp 81) 29 3 (.int .i64 0) 8 rfl Try.underlying29 info3 rfl (by decide) (by omega) v120 y119 y122 _ _ _ (fun k_ => some k_ ≠ (.slice Ao27 y103.length co27 : Value).ownBlock ∧ some k_ ≠ (.slice Ao36 y116.length co36 : Value).ownBlock) (fun _ => False) rfl rfl ?aO ?aR (fun _ _ h => h) (fun _ h => h.elim) ?aF ?aB ?aS ?aL ?_
            (case aR => exact (show Kd.C (Kd.int .i64) _ A28 y122.length y122 from by rw [Ny122.out, KA28.out]; exact Kd.C_drop (m := ((ji8) : Int).toNat) (c := co27) ((Kd.R_reads' HO105.out).2.2) KL28.out ((Kd.R_reads' HO105.out).2.1)))
            (case aB => exact (by repeat (first | (with_reducible first | exact HB.out | apply below_alloc | apply pw_below_drewN | apply below_drew1 | refine below_set ?_ GE101.out | refine below_set ?_ GE102.out) | exact HB.out)))
            (case aF => exact (fun k_ hk => ⟨Kd.fresh' (Kd.R_lt (by (with_reducible repeat (first | apply Kd.R_alloc | apply Kd.R_drewN | apply Kd.R_drew)); exact HO105.out)) k_ hk, Kd.fresh' (Kd.R_lt (by (with_reducible repeat (first | apply Kd.R_alloc | apply Kd.R_drewN | apply Kd.R_drew)); exact HO118.out)) k_ hk⟩))
            (case aO => exact (by (with_reducible repeat (first | apply Kd.R_alloc | apply Kd.R_drewN | apply Kd.R_drew)); exact HO121.out))
            (case aS => exact (below_size (by repeat (first | (with_reducible first | exact HB.out | apply below_alloc | apply pw_below_drewN | apply below_drew1 | refine below_set ?_ GE101.out | refine below_set ?_ GE102.out) | exact HB.out))))
            (case aL => have := LMc15.out; omega)
            intro v127 w37 ho hb hg hat
            rw [← Ny126.out] at ho
            have n0_ := Aside0.mk (blk_grown (g := gb101) (o := .cells #[.int .u16 a1_0, .int .u16 a1_1, .int .u16 a1_2] 44 (0, 0)) (by (with_reducible repeat (first | refine blk_drewN ?_ _ | refine blk_drew ?_ | refine blk_alloc ?_ _)); exact BK101.out) hg (Kd.R_ne HO121.out BK101.out (by decide)))
            have n1_ := Aside0.mk (blk_grown (g := gb102) (o := .cells #[.int .i32 a2_0, .int .u8 a2_1] 87 (0, 0)) (by (with_reducible repeat (first | refine blk_drewN ?_ _ | refine blk_drew ?_ | refine blk_alloc ?_ _)); exact BK102.out) hg (Kd.R_ne HO121.out BK102.out (by decide)))
            have n2_ := Aside0.mk (Kd.R_after (ok := (fun k_ => some k_ ≠ (.slice Ao36 y116.length co36 : Value).ownBlock)) (by (with_reducible repeat (first | apply Kd.R_alloc | apply Kd.R_drewN | apply Kd.R_drew)); exact HO105.out) hg hat)
            have n3_ := Aside0.mk (Kd.R_after (ok := (fun k_ => some k_ ≠ (.slice Ao27 y103.length co27 : Value).ownBlock)) (by (with_reducible repeat (first | apply Kd.R_alloc | apply Kd.R_drewN | apply Kd.R_drew)); exact HO118.out) hg hat)
            have n4_ := Aside0.mk (hb)
            have n5_ := Aside0.mk (ho)
            clear BK101
            clear BK102
            clear HO105
            clear HO118
            clear HB
            clear HO121
            have BK101 := n0_
            have BK102 := n1_
            have HO105 := n2_
            have HO118 := n3_
            have HB := n4_
            have HO128 := n5_
            clear n0_ n1_ n2_ n3_ n4_ n5_
            clear ho hb hg hat
            refine hK.out _ _ trivial (fun hHeld => ?_)
            clear hK K
            refine norm_ (a' := ?_) ?_ ?_
            rotate_left
            · show Act.put _ (some 82) _ = _
              simp only [Act.put, List.setIfInBounds_toArray, List.set_cons_zero, List.set_cons_succ, i64_w, i32_w]
              rfl
            refine pure_ (i := 12) (N := some 16) (v := ?_) (a' := ?_) #[true, true, true, true, true, true, true, true, true, true, true, true, true] rfl rfl (any_of HT_.out (by kernel_rfl)) (fun _ _ _ h => h) (Or.inl ⟨by rfl, ?_⟩) ?_ ?_
            rotate_left
            · intro w'
              go_simp
              with_reducible rfl
            rotate_left
            · simp only [Act.put, List.setIfInBounds_toArray, List.set_cons_zero, List.set_cons_succ, i64_w, i32_w]
              rfl
            refine done_ (done_of HT_.out (by kernel_rfl)) ?_
            go_upto_region 11 with (fail)
            go_cut [94] (fun v94 wc => ∃ (kq : Nat) (x94_15 : Bool), v94 = .bool x94_15 ∧ Aside0 (rudderlaw13_ParityFour.j0 kq (wrap64 ((wrap64 (a0)) + (ji5))) (wrap64 ((wrap64 (a0)) + (ji7))) (wrap64 ((wrap64 ((wrap64 (a0)) + (ji5))) - (wrap64 ((wrap64 (a0)) + (ji7))))) ji8 (wrap64 (a2_0)) y126 x94_15 = some r) ∧ Aside0 (kq ≤ k) ∧ Aside0 (Kd.R (Kd.int .i64) 3 wc w.heap.size (fun _ => True) v127 y126) ∧ Aside0 (wc.heap[gb101]? = some (.cells #[.int .u16 a1_0, .int .u16 a1_1, .int .u16 a1_2] 44 (0, 0))) ∧ Aside0 (wc.heap[gb102]? = some (.cells #[.int .i32 a2_0, .int .u8 a2_1] 87 (0, 0))) ∧ Aside0 (Below w.heap.size w wc))
            case first =>
              have H := HC16.out
              clear HC16
              by_cases c38 : (wrap64 (a2_0)) > (wrap64 ((wrap64 ((wrap64 (a0)) + (ji5))) + (wrap64 ((wrap64 ((wrap64 (a0)) + (ji5))) - (wrap64 ((wrap64 (a0)) + (ji7)))))))
              · rw [if_pos c38] at H
                have c38b0 : decide ((wrap64 ((wrap64 ((wrap64 (a0)) + (ji5))) + (wrap64 ((wrap64 ((wrap64 (a0)) + (ji5))) - (wrap64 ((wrap64 (a0)) + (ji7))))))) < (wrap64 (a2_0))) = true := decide_eq_true c38
                clear c38
                (first | rw [c38b0] | (simp only [i64_w, i32_w]; rw [c38b0]) | skip)
                have H' := Aside0.mk H
                clear H
                go_wp2
                go_meet
                case rel => exact ⟨_, (true), (by first | rfl | (simp; done) | (simp [*]; done)), H', ⟨by first | omega | exact Nat.le_refl _⟩, ⟨by (with_reducible repeat (first | apply Kd.R_alloc | apply Kd.R_drewN | apply Kd.R_drew)); exact Kd.R_mono HO128.out (fun _ hk => trivial)⟩, ⟨by (with_reducible repeat (first | refine blk_drewN ?_ _ | refine blk_drew ?_ | refine blk_alloc ?_ _)); exact BK101.out⟩, ⟨by (with_reducible repeat (first | refine blk_drewN ?_ _ | refine blk_drew ?_ | refine blk_alloc ?_ _)); exact BK102.out⟩, ⟨by repeat (first | (with_reducible first | exact HB.out | apply below_alloc | apply pw_below_drewN | apply below_drew1 | refine below_set ?_ GE101.out | refine below_set ?_ GE102.out) | exact HB.out)⟩⟩
              · rw [if_neg c38] at H
                have c38b0 : decide ((wrap64 ((wrap64 ((wrap64 (a0)) + (ji5))) + (wrap64 ((wrap64 ((wrap64 (a0)) + (ji5))) - (wrap64 ((wrap64 (a0)) + (ji7))))))) < (wrap64 (a2_0))) = false := decide_eq_false c38
                clear c38
                (first | rw [c38b0] | (simp only [i64_w, i32_w]; rw [c38b0]) | skip)
                have H' := Aside0.mk H
                clear H
                go_wp2
                go_meet
                case rel => exact ⟨_, (decide ((wrap64 (a2_0)) < (wrap64 ((wrap64 ((wrap64 (a0)) + (ji7))) - (wrap64 ((wrap64 ((wrap64 (a0)) + (ji5))) - (wrap64 ((wrap64 (a0)) + (ji7))))))))), (by first | rfl | (simp; done) | (simp only [← hji5, ← hji7] <;> (first | rfl | simp)) | (simp [*]; done)), H', ⟨by first | omega | exact Nat.le_refl _⟩, ⟨by (with_reducible repeat (first | apply Kd.R_alloc | apply Kd.R_drewN | apply Kd.R_drew)); exact Kd.R_mono HO128.out (fun _ hk => trivial)⟩, ⟨by (with_reducible repeat (first | refine blk_drewN ?_ _ | refine blk_drew ?_ | refine blk_alloc ?_ _)); exact BK101.out⟩, ⟨by (with_reducible repeat (first | refine blk_drewN ?_ _ | refine blk_drew ?_ | refine blk_alloc ?_ _)); exact BK102.out⟩, ⟨by repeat (first | (with_reducible first | exact HB.out | apply below_alloc | apply pw_below_drewN | apply below_drew1 | refine below_set ?_ GE101.out | refine below_set ?_ GE102.out) | exact HB.out)⟩⟩
            case rest =>
              clear HC16
              try clear c1
              try clear c2
              try clear p2
              try clear q2
              try clear c3
              try clear p6
              try clear c11
              try clear c12
              try clear c13
              try clear c13b0
              try clear c14
              try clear c14b0
              try clear c15
              try clear c19
              try clear q26
              try clear c28
              try clear q28
              try clear c38
              try clear c38b0
              try clear hcz20_0
              try clear hcz20_1
              try clear hcz21_0
              try clear hcz21_1
              try clear hcz21_2
              try clear hcz24_0
              try clear hcz24_1
              try clear hcz24_2
              try clear hfz20_0
              try clear hfz20_1
              try clear hfz21_0
              try clear hfz21_1
              try clear hfz21_2
              try clear hfz24_0
              try clear hfz24_1
              try clear hfz24_2
              try clear q028
              try clear q26
              try clear q28
              obtain ⟨kq, x94_15, rfl, HA, HJ15, HO_16, BK101, BK102, HB⟩ := hcut
              cases kq with
              | zero => exact absurd HA.out (by simp [rudderlaw13_ParityFour.j0])
              | succ kj15 =>
                have H := HA.out
                clear HA
                simp only [rudderlaw13_ParityFour.j0] at H
                by_cases c39 : x94_15 = true
                · subst c39
                  have H1 : ((rudderlaw13_alive.f kj15).bind fun t129 => (if t129 = true then ((parity_Suspect.f kj15 y126 (wrap64 ((wrap64 ((wrap64 (a0)) + (ji5))) - (wrap64 ((wrap64 (a0)) + (ji7)))))).bind fun t130 => (some (t130 == ji8))) else (none))) = some r := by rw [if_pos rfl] at H; exact H
                  clear H
                  have H := H1
                  clear H1
                  replace H := Option.bind_eq_some_iff.mp H
                  obtain ⟨t129, A400, H⟩ := H
                  replace H : (if t129 = true then ((parity_Suspect.f kj15 y126 (wrap64 ((wrap64 ((wrap64 (a0)) + (ji5))) - (wrap64 ((wrap64 (a0)) + (ji7)))))).bind fun t130 => (some (t130 == ji8))) else (none)) = some r := H
                  have A40 := Aside0.mk A400
                  clear A400
                  by_cases c41 : t129 = true
                  · subst c41
                    have H1 : ((parity_Suspect.f kj15 y126 (wrap64 ((wrap64 ((wrap64 (a0)) + (ji5))) - (wrap64 ((wrap64 (a0)) + (ji7)))))).bind fun t130 => (some (t130 == ji8))) = some r := by rw [if_pos rfl] at H; exact H
                    clear H
                    have H := H1
                    clear H1
                    replace H := Option.bind_eq_some_iff.mp H
                    obtain ⟨t130, A420, H⟩ := H
                    replace H : (some (t130 == ji8)) = some r := H
                    have A42 := Aside0.mk A420
                    clear A420
                    obtain rfl := Option.some.inj H
                    go_wp2_with (first | ((with_reducible refine gate_callee (f := 54) rfl ?_); refine goesL_ (some 95) rfl rfl Try.func54 (by kernel_rfl) rfl #[] rfl (by (try simp only [List.map_toArray, List.map_cons, List.map_nil]); first | done | rfl | (simp only [List.length_drop, List.length_take]; rfl)) ?_; (with_reducible refine (rudderlaw13_alive.calls kj15  true _ A40.out).mono ?_); rintro e w43 ⟨rfl, hb⟩; refine ⟨_, rfl, ?_⟩; have n0_ := Aside0.mk (Kd.R_below (by (with_reducible repeat (first | apply Kd.R_alloc | apply Kd.R_drewN | apply Kd.R_drew)); exact HO_16.out) hb); have n1_ := Aside0.mk (blk_below (g := gb101) (o := .cells #[.int .u16 a1_0, .int .u16 a1_1, .int .u16 a1_2] 44 (0, 0)) (by (with_reducible repeat (first | refine blk_drewN ?_ _ | refine blk_drew ?_ | refine blk_alloc ?_ _)); exact BK101.out) hb); have n2_ := Aside0.mk (blk_below (g := gb102) (o := .cells #[.int .i32 a2_0, .int .u8 a2_1] 87 (0, 0)) (by (with_reducible repeat (first | refine blk_drewN ?_ _ | refine blk_drew ?_ | refine blk_alloc ?_ _)); exact BK102.out) hb); have n3_ := Aside0.mk (below_step (by repeat (first | (with_reducible first | exact HB.out | apply below_alloc | apply pw_below_drewN | apply below_drew1 | refine below_set ?_ GE101.out | refine below_set ?_ GE102.out) | exact HB.out)) hb); clear HO_16; clear BK101; clear BK102; clear HB; have HO_16 := n0_; have BK101 := n1_; have BK102 := n2_; have HB := n3_; clear n0_ n1_ n2_ n3_; (try clear hb); (try clear hb2); (try clear hk); (try clear hi); obtain ⟨Ao44, co44, eo44⟩ := Kd.R_slice HO_16.out; subst eo44) | (go_at_call 57; (with_reducible refine (parity_Suspect.calls kj15 _ _ y126 (wrap64 ((wrap64 ((wrap64 (a0)) + (ji5))) - (wrap64 ((wrap64 (a0)) + (ji7))))) t130 _ ?side1 ?side2 A42.out).mono ?_); (case side1 => repeat (first | exact (Kd.R_reads' HO_16.out).2.2 | (with_reducible refine Kd.C_alloc ?_ _) | (with_reducible refine Kd.C_drewN ?_ _) | (with_reducible refine Kd.C_drew ?_))); (case side2 => exact (Kd.R_reads' HO_16.out).2.1); rintro e w45 ⟨rfl, hb⟩; have n0_ := Aside0.mk (Kd.R_below (by (with_reducible repeat (first | apply Kd.R_alloc | apply Kd.R_drewN | apply Kd.R_drew)); exact HO_16.out) hb); have n1_ := Aside0.mk (blk_below (g := gb101) (o := .cells #[.int .u16 a1_0, .int .u16 a1_1, .int .u16 a1_2] 44 (0, 0)) (by (with_reducible repeat (first | refine blk_drewN ?_ _ | refine blk_drew ?_ | refine blk_alloc ?_ _)); exact BK101.out) hb); have n2_ := Aside0.mk (blk_below (g := gb102) (o := .cells #[.int .i32 a2_0, .int .u8 a2_1] 87 (0, 0)) (by (with_reducible repeat (first | refine blk_drewN ?_ _ | refine blk_drew ?_ | refine blk_alloc ?_ _)); exact BK102.out) hb); have n3_ := Aside0.mk (below_step (by repeat (first | (with_reducible first | exact HB.out | apply below_alloc | apply pw_below_drewN | apply below_drew1 | refine below_set ?_ GE101.out | refine below_set ?_ GE102.out) | exact HB.out)) hb); clear HO_16; clear BK101; clear BK102; clear HB; have HO_16 := n0_; have BK101 := n1_; have BK102 := n2_; have HB := n3_; clear n0_ n1_ n2_ n3_; (try clear hb); (try clear hb2); (try clear hk); (try clear hi)))
                    go_ret
                    exact ⟨by first | rfl | (simp [errW_none, errW_some] <;> rfl) | (simp only [← hji4, ← hji5, ← hji6, ← hji7, ← hji8]; first | rfl | (simp [errW_none, errW_some] <;> rfl)) | (simp [*, errW_none, errW_some] <;> rfl), by repeat (first | (with_reducible first | exact HB.out | apply below_alloc | apply pw_below_drewN | apply below_drew1 | refine below_set ?_ GE101.out | refine below_set ?_ GE102.out) | exact HB.out)⟩
                  · replace c41 := Bool.eq_false_iff.mpr c41
                    subst c41
                    have H1 : (none) = some r := by rw [if_neg (show ¬ (false = true) by decide)] at H; exact H
                    clear H
                    have H := H1
                    clear H1
                    exact absurd H (by simp)
                · replace c39 := Bool.eq_false_iff.mpr c39
                  subst c39
                  have H1 : (if (wrap64 ((mx (wrap64 (a2_0)) (wrap64 ((wrap64 (a0)) + (ji5)))) - (mn (wrap64 (a2_0)) (wrap64 ((wrap64 (a0)) + (ji7)))))) ≤ (wrap64 ((wrap64 ((wrap64 (a0)) + (ji5))) - (wrap64 ((wrap64 (a0)) + (ji7))))) then ((rudderlaw13_alive.f kj15).bind fun t131 => (if t131 = true then ((parity_Suspect.f kj15 y126 (wrap64 ((wrap64 ((wrap64 (a0)) + (ji5))) - (wrap64 ((wrap64 (a0)) + (ji7)))))).bind fun t132 => (some (t132 == (-1)))) else (none))) else ((rudderlaw13_alive.f kj15).bind fun t133 => (some t133))) = some r := by rw [if_neg (show ¬ (false = true) by decide)] at H; exact H
                  clear H
                  have H := H1
                  clear H1
                  obtain ⟨ji46, hji46⟩ : ∃ j_ : Int, (mx (wrap64 (a2_0)) (wrap64 ((wrap64 (a0)) + (ji5)))) = j_ := ⟨_, rfl⟩
                  replace H : (if (wrap64 ((ji46) - (mn (wrap64 (a2_0)) (wrap64 ((wrap64 (a0)) + (ji7)))))) ≤ (wrap64 ((wrap64 ((wrap64 (a0)) + (ji5))) - (wrap64 ((wrap64 (a0)) + (ji7))))) then ((rudderlaw13_alive.f kj15).bind fun t131 => (if t131 = true then ((parity_Suspect.f kj15 y126 (wrap64 ((wrap64 ((wrap64 (a0)) + (ji5))) - (wrap64 ((wrap64 (a0)) + (ji7)))))).bind fun t132 => (some (t132 == (-1)))) else (none))) else ((rudderlaw13_alive.f kj15).bind fun t133 => (some t133))) = some r := by first | (rw [hji46] at H; exact H) | (simp only [hji46] at H ⊢; exact H)
                  have hji46_ : (if (wrap64 (a2_0)) < (wrap64 ((wrap64 (a0)) + (ji5))) then (wrap64 ((wrap64 (a0)) + (ji5))) else (wrap64 (a2_0))) = ji46 := hji46
                  obtain ⟨ji47, hji47⟩ : ∃ j_ : Int, (mn (wrap64 (a2_0)) (wrap64 ((wrap64 (a0)) + (ji7)))) = j_ := ⟨_, rfl⟩
                  replace H : (if (wrap64 ((ji46) - (ji47))) ≤ (wrap64 ((wrap64 ((wrap64 (a0)) + (ji5))) - (wrap64 ((wrap64 (a0)) + (ji7))))) then ((rudderlaw13_alive.f kj15).bind fun t131 => (if t131 = true then ((parity_Suspect.f kj15 y126 (wrap64 ((wrap64 ((wrap64 (a0)) + (ji5))) - (wrap64 ((wrap64 (a0)) + (ji7)))))).bind fun t132 => (some (t132 == (-1)))) else (none))) else ((rudderlaw13_alive.f kj15).bind fun t133 => (some t133))) = some r := by first | (rw [hji47] at H; exact H) | (simp only [hji47] at H ⊢; exact H)
                  have hji47_ : (if (wrap64 ((wrap64 (a0)) + (ji7))) < (wrap64 (a2_0)) then (wrap64 ((wrap64 (a0)) + (ji7))) else (wrap64 (a2_0))) = ji47 := hji47
                  by_cases c48 : (wrap64 ((ji46) - (ji47))) ≤ (wrap64 ((wrap64 ((wrap64 (a0)) + (ji5))) - (wrap64 ((wrap64 (a0)) + (ji7)))))
                  · rw [if_pos c48] at H
                    have c48b0 : decide ((wrap64 ((ji46) - (ji47))) ≤ (wrap64 ((wrap64 ((wrap64 (a0)) + (ji5))) - (wrap64 ((wrap64 (a0)) + (ji7)))))) = true := decide_eq_true c48
                    clear c48
                    replace H := Option.bind_eq_some_iff.mp H
                    obtain ⟨t131, A490, H⟩ := H
                    replace H : (if t131 = true then ((parity_Suspect.f kj15 y126 (wrap64 ((wrap64 ((wrap64 (a0)) + (ji5))) - (wrap64 ((wrap64 (a0)) + (ji7)))))).bind fun t132 => (some (t132 == (-1)))) else (none)) = some r := H
                    have A49 := Aside0.mk A490
                    clear A490
                    by_cases c50 : t131 = true
                    · subst c50
                      have H1 : ((parity_Suspect.f kj15 y126 (wrap64 ((wrap64 ((wrap64 (a0)) + (ji5))) - (wrap64 ((wrap64 (a0)) + (ji7)))))).bind fun t132 => (some (t132 == (-1)))) = some r := by rw [if_pos rfl] at H; exact H
                      clear H
                      have H := H1
                      clear H1
                      replace H := Option.bind_eq_some_iff.mp H
                      obtain ⟨t132, A510, H⟩ := H
                      replace H : (some (t132 == (-1))) = some r := H
                      have A51 := Aside0.mk A510
                      clear A510
                      obtain rfl := Option.some.inj H
                      go_wp2_with (first | ((with_reducible refine gate_callee (f := 54) rfl ?_); refine goesL_ (some 112) rfl rfl Try.func54 (by kernel_rfl) rfl #[] rfl (by (try simp only [List.map_toArray, List.map_cons, List.map_nil]); first | done | rfl | (simp only [List.length_drop, List.length_take]; rfl)) ?_; (with_reducible refine (rudderlaw13_alive.calls kj15  true _ A49.out).mono ?_); rintro e w52 ⟨rfl, hb⟩; refine ⟨_, rfl, ?_⟩; have n0_ := Aside0.mk (Kd.R_below (by (with_reducible repeat (first | apply Kd.R_alloc | apply Kd.R_drewN | apply Kd.R_drew)); exact HO_16.out) hb); have n1_ := Aside0.mk (blk_below (g := gb101) (o := .cells #[.int .u16 a1_0, .int .u16 a1_1, .int .u16 a1_2] 44 (0, 0)) (by (with_reducible repeat (first | refine blk_drewN ?_ _ | refine blk_drew ?_ | refine blk_alloc ?_ _)); exact BK101.out) hb); have n2_ := Aside0.mk (blk_below (g := gb102) (o := .cells #[.int .i32 a2_0, .int .u8 a2_1] 87 (0, 0)) (by (with_reducible repeat (first | refine blk_drewN ?_ _ | refine blk_drew ?_ | refine blk_alloc ?_ _)); exact BK102.out) hb); have n3_ := Aside0.mk (below_step (by repeat (first | (with_reducible first | exact HB.out | apply below_alloc | apply pw_below_drewN | apply below_drew1 | refine below_set ?_ GE101.out | refine below_set ?_ GE102.out) | exact HB.out)) hb); clear HO_16; clear BK101; clear BK102; clear HB; have HO_16 := n0_; have BK101 := n1_; have BK102 := n2_; have HB := n3_; clear n0_ n1_ n2_ n3_; (try clear hb); (try clear hb2); (try clear hk); (try clear hi); obtain ⟨Ao53, co53, eo53⟩ := Kd.R_slice HO_16.out; subst eo53) | (go_at_call 57; (with_reducible refine (parity_Suspect.calls kj15 _ _ y126 (wrap64 ((wrap64 ((wrap64 (a0)) + (ji5))) - (wrap64 ((wrap64 (a0)) + (ji7))))) t132 _ ?side1 ?side2 A51.out).mono ?_); (case side1 => repeat (first | exact (Kd.R_reads' HO_16.out).2.2 | (with_reducible refine Kd.C_alloc ?_ _) | (with_reducible refine Kd.C_drewN ?_ _) | (with_reducible refine Kd.C_drew ?_))); (case side2 => exact (Kd.R_reads' HO_16.out).2.1); rintro e w54 ⟨rfl, hb⟩; have n0_ := Aside0.mk (Kd.R_below (by (with_reducible repeat (first | apply Kd.R_alloc | apply Kd.R_drewN | apply Kd.R_drew)); exact HO_16.out) hb); have n1_ := Aside0.mk (blk_below (g := gb101) (o := .cells #[.int .u16 a1_0, .int .u16 a1_1, .int .u16 a1_2] 44 (0, 0)) (by (with_reducible repeat (first | refine blk_drewN ?_ _ | refine blk_drew ?_ | refine blk_alloc ?_ _)); exact BK101.out) hb); have n2_ := Aside0.mk (blk_below (g := gb102) (o := .cells #[.int .i32 a2_0, .int .u8 a2_1] 87 (0, 0)) (by (with_reducible repeat (first | refine blk_drewN ?_ _ | refine blk_drew ?_ | refine blk_alloc ?_ _)); exact BK102.out) hb); have n3_ := Aside0.mk (below_step (by repeat (first | (with_reducible first | exact HB.out | apply below_alloc | apply pw_below_drewN | apply below_drew1 | refine below_set ?_ GE101.out | refine below_set ?_ GE102.out) | exact HB.out)) hb); clear HO_16; clear BK101; clear BK102; clear HB; have HO_16 := n0_; have BK101 := n1_; have BK102 := n2_; have HB := n3_; clear n0_ n1_ n2_ n3_; (try clear hb); (try clear hb2); (try clear hk); (try clear hi)))
                      go_ret
                      exact ⟨by first | rfl | (simp [errW_none, errW_some] <;> rfl) | (simp only [← hji4, ← hji5, ← hji6, ← hji7, ← hji8, ← hji46, ← hji47]; first | rfl | (simp [errW_none, errW_some] <;> rfl)) | (simp [*, errW_none, errW_some] <;> rfl), by repeat (first | (with_reducible first | exact HB.out | apply below_alloc | apply pw_below_drewN | apply below_drew1 | refine below_set ?_ GE101.out | refine below_set ?_ GE102.out) | exact HB.out)⟩
                    · replace c50 := Bool.eq_false_iff.mpr c50
                      subst c50
                      have H1 : (none) = some r := by rw [if_neg (show ¬ (false = true) by decide)] at H; exact H
                      clear H
                      have H := H1
                      clear H1
                      exact absurd H (by simp)
                  · rw [if_neg c48] at H
                    have c48b0 : decide ((wrap64 ((ji46) - (ji47))) ≤ (wrap64 ((wrap64 ((wrap64 (a0)) + (ji5))) - (wrap64 ((wrap64 (a0)) + (ji7)))))) = false := decide_eq_false c48
                    clear c48
                    replace H := Option.bind_eq_some_iff.mp H
                    obtain ⟨t133, A550, H⟩ := H
                    replace H : (some t133) = some r := H
                    have A55 := Aside0.mk A550
                    clear A550
                    obtain rfl := Option.some.inj H
                    go_wp2_with (first | ((with_reducible refine gate_callee (f := 54) rfl ?_); refine goesL_ (some 119) rfl rfl Try.func54 (by kernel_rfl) rfl #[] rfl (by (try simp only [List.map_toArray, List.map_cons, List.map_nil]); first | done | rfl | (simp only [List.length_drop, List.length_take]; rfl)) ?_; (with_reducible refine (rudderlaw13_alive.calls kj15  t133 _ A55.out).mono ?_); rintro e w56 ⟨rfl, hb⟩; refine ⟨_, rfl, ?_⟩; have n0_ := Aside0.mk (Kd.R_below (by (with_reducible repeat (first | apply Kd.R_alloc | apply Kd.R_drewN | apply Kd.R_drew)); exact HO_16.out) hb); have n1_ := Aside0.mk (blk_below (g := gb101) (o := .cells #[.int .u16 a1_0, .int .u16 a1_1, .int .u16 a1_2] 44 (0, 0)) (by (with_reducible repeat (first | refine blk_drewN ?_ _ | refine blk_drew ?_ | refine blk_alloc ?_ _)); exact BK101.out) hb); have n2_ := Aside0.mk (blk_below (g := gb102) (o := .cells #[.int .i32 a2_0, .int .u8 a2_1] 87 (0, 0)) (by (with_reducible repeat (first | refine blk_drewN ?_ _ | refine blk_drew ?_ | refine blk_alloc ?_ _)); exact BK102.out) hb); have n3_ := Aside0.mk (below_step (by repeat (first | (with_reducible first | exact HB.out | apply below_alloc | apply pw_below_drewN | apply below_drew1 | refine below_set ?_ GE101.out | refine below_set ?_ GE102.out) | exact HB.out)) hb); clear HO_16; clear BK101; clear BK102; clear HB; have HO_16 := n0_; have BK101 := n1_; have BK102 := n2_; have HB := n3_; clear n0_ n1_ n2_ n3_; (try clear hb); (try clear hb2); (try clear hk); (try clear hi)))
                    go_ret
                    exact ⟨by first | rfl | (simp [errW_none, errW_some] <;> rfl) | (simp only [← hji4, ← hji5, ← hji6, ← hji7, ← hji8, ← hji46, ← hji47]; first | rfl | (simp [errW_none, errW_some] <;> rfl)) | (simp [*, errW_none, errW_some] <;> rfl), by repeat (first | (with_reducible first | exact HB.out | apply below_alloc | apply pw_below_drewN | apply below_drew1 | refine below_set ?_ GE101.out | refine below_set ?_ GE102.out) | exact HB.out)⟩
          · rw [if_neg c15] at H
            exact absurd H (by simp)
        · rw [if_neg c12] at H
          exact absurd H (by simp)
      · rw [if_neg c11] at H
        exact absurd H (by simp)
    · rw [if_neg c10] at H
      exact absurd H (by simp)
  · rw [if_neg c9] at H
    exact absurd H (by simp)

end Go.Proofs.Ytdhmefdnpiidbaa.PParityFour
